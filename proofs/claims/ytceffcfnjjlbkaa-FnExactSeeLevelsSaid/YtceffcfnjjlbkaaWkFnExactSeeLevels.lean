/- The walks of laws.FnExactSeeLevels. -/
import Derived.Test.YtceffcfnjjlbkaaE30
import Derived.Test.YtceffcfnjjlbkaaProg
namespace Go.Proofs.Ytceffcfnjjlbkaa.E
open Go.RowKit
set_option linter.unusedVariables false
set_option linter.unusedSimpArgs false
set_option maxRecDepth 100000
/-! ### laws.toConnector -/
abbrev ps_laws_toConnector : List PK := [(.val true (.pair .bool (.pair .bool (.int .i64))))]
abbrev rs_laws_toConnector : List RK := [(.own true (.pair .bool (.pair .bool (.int .i64))))]
section
abbrev w_laws_toConnector_keep : Nat → List Nat := kp []
abbrev w_laws_toConnector_cut : Nat → Bool := memC []
abbrev w_laws_toConnector_Γ : Nat → Option Sig := tab []
theorem w_laws_toConnector_0 (j : Nat) (X : dens ps_laws_toConnector) : whole Try.prog w_laws_toConnector_Γ Try.f16 w_laws_toConnector_cut w_laws_toConnector_keep ps_laws_toConnector rs_laws_toConnector (j + 1) X =
    some ((), (((X.fst.fst), ((X.fst.snd.fst), (X.fst.snd.snd))), ())) := by kernel_rfl
end
noncomputable def F_laws_toConnector : (Bool × Bool × Int) × Unit → Option ((Unit) × (Bool × Bool × Int) × Unit) := (sigOf Try.prog (w_laws_toConnector_Γ) Try.f16 w_laws_toConnector_cut w_laws_toConnector_keep ps_laws_toConnector rs_laws_toConnector).F
theorem ok_laws_toConnector : FnOk Try.prog 16 ⟨ps_laws_toConnector, rs_laws_toConnector, F_laws_toConnector⟩ := sigOk (Γ := w_laws_toConnector_Γ) (cut := w_laws_toConnector_cut) (keep := w_laws_toConnector_keep) tab_nil Try.func16 (by kernel_rfl) rfl
theorem F_laws_toConnector_eq (X : (Bool × Bool × Int) × Unit) : F_laws_toConnector X =
    some ((), (((X.fst.fst), ((X.fst.snd.fst), (X.fst.snd.snd))), ())) := by
  show lim (fun j => whole Try.prog (w_laws_toConnector_Γ) Try.f16 w_laws_toConnector_cut w_laws_toConnector_keep ps_laws_toConnector rs_laws_toConnector j X) = _
  rw [lim_succ (fun j r h => whole_mono j r h)]
  simp only [w_laws_toConnector_0, lim_ite, lim_bind, lim_const]
  all_goals rfl

/-! ### impl.within -/
abbrev ps_impl_within : List PK := [(.val false (.int .i64)), (.val false (.int .i64)), (.val false (.int .i64))]
abbrev rs_impl_within : List RK := [(.own false .bool)]
section
abbrev w_impl_within_keep : Nat → List Nat := kp []
abbrev w_impl_within_cut : Nat → Bool := memC []
abbrev w_impl_within_Γ : Nat → Option Sig := tab []
theorem w_impl_within_0 (j : Nat) (X : dens ps_impl_within) : whole Try.prog w_impl_within_Γ Try.f64 w_impl_within_cut w_impl_within_keep ps_impl_within rs_impl_within (j + 1) X =
    if decide (X.snd.fst ≤ X.fst) = true then
      some ((), ((decide (X.fst ≤ X.snd.snd.fst)), ()))
    else
      some ((), (false, ())) := by kernel_rfl
end
noncomputable def F_impl_within : Int × Int × Int × Unit → Option ((Unit) × Bool × Unit) := (sigOf Try.prog (w_impl_within_Γ) Try.f64 w_impl_within_cut w_impl_within_keep ps_impl_within rs_impl_within).F
theorem ok_impl_within : FnOk Try.prog 64 ⟨ps_impl_within, rs_impl_within, F_impl_within⟩ := sigOk (Γ := w_impl_within_Γ) (cut := w_impl_within_cut) (keep := w_impl_within_keep) tab_nil Try.func64 (by kernel_rfl) rfl
theorem F_impl_within_eq (X : Int × Int × Int × Unit) : F_impl_within X =
    if decide (X.snd.fst ≤ X.fst) = true then
      some ((), ((decide (X.fst ≤ X.snd.snd.fst)), ()))
    else
      some ((), (false, ())) := by
  show lim (fun j => whole Try.prog (w_impl_within_Γ) Try.f64 w_impl_within_cut w_impl_within_keep ps_impl_within rs_impl_within j X) = _
  rw [lim_succ (fun j r h => whole_mono j r h)]
  simp only [w_impl_within_0, lim_ite, lim_bind, lim_const]
  all_goals rfl

/-! ### impl.ConnectorOk -/
abbrev ps_impl_ConnectorOk : List PK := [(.val true (.pair .bool (.pair .bool (.int .i64))))]
abbrev rs_impl_ConnectorOk : List RK := [(.own false .bool)]
section
variable (F_impl_within : dens ps_impl_within → Option (outs ps_impl_within × rdens rs_impl_within))
abbrev w_impl_ConnectorOk_keep : Nat → List Nat := kp []
abbrev w_impl_ConnectorOk_cut : Nat → Bool := memC []
abbrev w_impl_ConnectorOk_Γ : Nat → Option Sig := tab [(64, ⟨ps_impl_within, rs_impl_within, F_impl_within⟩)]
theorem w_impl_ConnectorOk_0 (j : Nat) (X : dens ps_impl_ConnectorOk) : whole Try.prog (w_impl_ConnectorOk_Γ F_impl_within) Try.f17 w_impl_ConnectorOk_cut w_impl_ConnectorOk_keep ps_impl_ConnectorOk rs_impl_ConnectorOk (j + 1) X =
    if (X.fst.snd.fst == X.fst.fst) = true then
      some ((), ((X.fst.snd.snd == 0), ()))
    else
      (F_impl_within ((X.fst.snd.snd), (1, (1, ())))).bind fun r0 =>
        some ((), ((r0.snd.fst), ())) := by kernel_rfl
end
noncomputable def F_impl_ConnectorOk : (Bool × Bool × Int) × Unit → Option ((Unit) × Bool × Unit) := (sigOf Try.prog (w_impl_ConnectorOk_Γ F_impl_within) Try.f17 w_impl_ConnectorOk_cut w_impl_ConnectorOk_keep ps_impl_ConnectorOk rs_impl_ConnectorOk).F
theorem ok_impl_ConnectorOk : FnOk Try.prog 17 ⟨ps_impl_ConnectorOk, rs_impl_ConnectorOk, F_impl_ConnectorOk⟩ := sigOk (Γ := w_impl_ConnectorOk_Γ F_impl_within) (cut := w_impl_ConnectorOk_cut) (keep := w_impl_ConnectorOk_keep) (tab_cons ok_impl_within tab_nil) Try.func17 (by kernel_rfl) rfl
theorem F_impl_ConnectorOk_eq (X : (Bool × Bool × Int) × Unit) : F_impl_ConnectorOk X =
    if (X.fst.snd.fst == X.fst.fst) = true then
      some ((), ((X.fst.snd.snd == 0), ()))
    else
      (F_impl_within ((X.fst.snd.snd), (1, (1, ())))).bind fun r0 =>
        some ((), ((r0.snd.fst), ())) := by
  show lim (fun j => whole Try.prog (w_impl_ConnectorOk_Γ F_impl_within) Try.f17 w_impl_ConnectorOk_cut w_impl_ConnectorOk_keep ps_impl_ConnectorOk rs_impl_ConnectorOk j X) = _
  rw [lim_succ (fun j r h => whole_mono j r h)]
  simp only [w_impl_ConnectorOk_0, lim_ite, lim_bind, lim_const]
  all_goals rfl

/-! ### impl.SeeLevel -/
abbrev ps_impl_SeeLevel : List PK := [(.val true (.pair .bool (.pair .bool (.int .i64)))), (.val false .bool)]
abbrev rs_impl_SeeLevel : List RK := [(.own true (.pair .bool (.pair .bool (.int .i64)))), (.own false (.int .i64))]
section
variable (F_impl_ConnectorOk : dens ps_impl_ConnectorOk → Option (outs ps_impl_ConnectorOk × rdens rs_impl_ConnectorOk))
abbrev w_impl_SeeLevel_keep : Nat → List Nat := kp []
abbrev w_impl_SeeLevel_cut : Nat → Bool := memC []
abbrev w_impl_SeeLevel_Γ : Nat → Option Sig := tab [(17, ⟨ps_impl_ConnectorOk, rs_impl_ConnectorOk, F_impl_ConnectorOk⟩)]
theorem w_impl_SeeLevel_0 (j : Nat) (X : dens ps_impl_SeeLevel) : whole Try.prog (w_impl_SeeLevel_Γ F_impl_ConnectorOk) Try.f27 w_impl_SeeLevel_cut w_impl_SeeLevel_keep ps_impl_SeeLevel rs_impl_SeeLevel (j + 1) X =
    (F_impl_ConnectorOk (((X.fst.fst), ((X.fst.snd.fst), (X.fst.snd.snd))), ())).bind fun r0 =>
      if (!r0.snd.fst) = true then
        some ((), (((X.fst.fst), ((X.fst.snd.fst), (X.fst.snd.snd))), (0, ())))
      else
        if (X.snd.fst == X.fst.fst) = true then
          some ((), (((X.fst.fst), ((X.snd.fst), 0)), (0, ())))
        else
          if decide (IntKind.i64.wrap (X.fst.snd.snd + 1) < 2) = true then
            some ((), (((X.fst.fst), ((X.snd.fst), (IntKind.i64.wrap (X.fst.snd.snd + 1)))), (0, ())))
          else
            if X.snd.fst = true then
              some ((), (((X.snd.fst), ((X.snd.fst), 0)), (1, ())))
            else
              some ((), (((X.snd.fst), ((X.snd.fst), 0)), (2, ()))) := by kernel_rfl
end
noncomputable def F_impl_SeeLevel : (Bool × Bool × Int) × Bool × Unit → Option ((Unit) × (Bool × Bool × Int) × Int × Unit) := (sigOf Try.prog (w_impl_SeeLevel_Γ F_impl_ConnectorOk) Try.f27 w_impl_SeeLevel_cut w_impl_SeeLevel_keep ps_impl_SeeLevel rs_impl_SeeLevel).F
theorem ok_impl_SeeLevel : FnOk Try.prog 27 ⟨ps_impl_SeeLevel, rs_impl_SeeLevel, F_impl_SeeLevel⟩ := sigOk (Γ := w_impl_SeeLevel_Γ F_impl_ConnectorOk) (cut := w_impl_SeeLevel_cut) (keep := w_impl_SeeLevel_keep) (tab_cons ok_impl_ConnectorOk tab_nil) Try.func27 (by kernel_rfl) rfl
theorem F_impl_SeeLevel_eq (X : (Bool × Bool × Int) × Bool × Unit) : F_impl_SeeLevel X =
    (F_impl_ConnectorOk (((X.fst.fst), ((X.fst.snd.fst), (X.fst.snd.snd))), ())).bind fun r0 =>
      if (!r0.snd.fst) = true then
        some ((), (((X.fst.fst), ((X.fst.snd.fst), (X.fst.snd.snd))), (0, ())))
      else
        if (X.snd.fst == X.fst.fst) = true then
          some ((), (((X.fst.fst), ((X.snd.fst), 0)), (0, ())))
        else
          if decide (IntKind.i64.wrap (X.fst.snd.snd + 1) < 2) = true then
            some ((), (((X.fst.fst), ((X.snd.fst), (IntKind.i64.wrap (X.fst.snd.snd + 1)))), (0, ())))
          else
            if X.snd.fst = true then
              some ((), (((X.snd.fst), ((X.snd.fst), 0)), (1, ())))
            else
              some ((), (((X.snd.fst), ((X.snd.fst), 0)), (2, ()))) := by
  show lim (fun j => whole Try.prog (w_impl_SeeLevel_Γ F_impl_ConnectorOk) Try.f27 w_impl_SeeLevel_cut w_impl_SeeLevel_keep ps_impl_SeeLevel rs_impl_SeeLevel j X) = _
  rw [lim_succ (fun j r h => whole_mono j r h)]
  simp only [w_impl_SeeLevel_0, lim_ite, lim_bind, lim_const]
  all_goals rfl

/-! ### impl.SeeLevels -/
abbrev ps_impl_SeeLevels : List PK := [(.val true (.pair .bool (.pair .bool (.int .i64)))), (.val false (.sl 4 .bool))]
abbrev rs_impl_SeeLevels : List RK := [(.own true (.pair .bool (.pair .bool (.int .i64)))), (.own false (.sl 3 (.int .i64)))]
section
variable (F_impl_SeeLevel : dens ps_impl_SeeLevel → Option (outs ps_impl_SeeLevel × rdens rs_impl_SeeLevel))
abbrev w_impl_SeeLevels_keep : Nat → List Nat := kp [(3, [2, 4, 6, 12, 13, 14])]
abbrev w_impl_SeeLevels_cut : Nat → Bool := memC []
abbrev w_impl_SeeLevels_Γ : Nat → Option Sig := tab [(27, ⟨ps_impl_SeeLevel, rs_impl_SeeLevel, F_impl_SeeLevel⟩)]
noncomputable def w_impl_SeeLevels_3 (j : Nat) (X : dens ps_impl_SeeLevels) (v0 : List (Ty.den .bool)) (v1 : Int) (v2 : Int) (v3 : Bool) (v4 : Bool) (v5 : Int) (v6 : Bool) (v7 : Bool) (v8 : Int) (v9 : List (Ty.den (.int .i64))) : Option (outs ps_impl_SeeLevels × rdens rs_impl_SeeLevels) := run Try.prog (w_impl_SeeLevels_Γ F_impl_SeeLevel) (fin Try.prog Try.f20 ps_impl_SeeLevels rs_impl_SeeLevels X) w_impl_SeeLevels_cut (resvP ps_impl_SeeLevels X startN) w_impl_SeeLevels_keep j (headTodo 3 (bodyOf Try.f20))
  ⟨sparse 32 0 [(2, (.c (.ptr 19300000 0))), (4, (.c (.ptr 19300001 0))), (6, (.c (.own 19300002))), (12, (.c (.bor 4 .bool v0))), (13, (.c (.int .i64 v1))), (14, (.c (.int .i64 v2)))], [(19300000, (.cells 25 [(.bool v3), (.bool v4), (.int .i64 v5)])), (19300001, (.cells 25 [(.bool v6), (.bool v7), (.int .i64 v8)])), (19300002, (.row true 0 3 (.int .i64) v9))]⟩
theorem w_impl_SeeLevels_0 (j : Nat) (X : dens ps_impl_SeeLevels) : whole Try.prog (w_impl_SeeLevels_Γ F_impl_SeeLevel) Try.f20 w_impl_SeeLevels_cut w_impl_SeeLevels_keep ps_impl_SeeLevels rs_impl_SeeLevels (j + 1) X =
    w_impl_SeeLevels_3 F_impl_SeeLevel j X (X.snd.fst) ((↑(List.length X.snd.fst) : Int)) 0 (X.fst.fst) (X.fst.snd.fst) (X.fst.snd.snd) false false 0 [] := by kernel_rfl
theorem w_impl_SeeLevels_3_step (j : Nat) (X : dens ps_impl_SeeLevels) (v0 : List (Ty.den .bool)) (v1 : Int) (v2 : Int) (v3 : Bool) (v4 : Bool) (v5 : Int) (v6 : Bool) (v7 : Bool) (v8 : Int) (v9 : List (Ty.den (.int .i64))) : w_impl_SeeLevels_3 F_impl_SeeLevel (j + 1) X v0 v1 v2 v3 v4 v5 v6 v7 v8 v9 =
    if decide (v2 < v1) = true then
      if 0 ≤ v2 then
        if v2 < (↑v0.length : Int) then
          (F_impl_SeeLevel ((v3, (v4, v5)), ((v0.getD v2.toNat Ty.bool.z), ()))).bind fun r0 =>
            if (v9.length + [r0.snd.snd.fst].length) * 8 ≤ 140737488355328 then
              w_impl_SeeLevels_3 F_impl_SeeLevel j X v0 v1 (IntKind.i64.wrap (v2 + 1)) (r0.snd.fst.fst) (r0.snd.fst.snd.fst) (r0.snd.fst.snd.snd) v6 v7 v8 (v9 ++ [r0.snd.snd.fst])
            else
              none
        else
          none
      else
        none
    else
      some ((), ((v3, (v4, v5)), (v9, ()))) := by kernel_rfl
end
noncomputable def F_impl_SeeLevels : (Bool × Bool × Int) × (List Bool) × Unit → Option ((Unit) × (Bool × Bool × Int) × (List Int) × Unit) := (sigOf Try.prog (w_impl_SeeLevels_Γ F_impl_SeeLevel) Try.f20 w_impl_SeeLevels_cut w_impl_SeeLevels_keep ps_impl_SeeLevels rs_impl_SeeLevels).F
theorem ok_impl_SeeLevels : FnOk Try.prog 20 ⟨ps_impl_SeeLevels, rs_impl_SeeLevels, F_impl_SeeLevels⟩ := sigOk (Γ := w_impl_SeeLevels_Γ F_impl_SeeLevel) (cut := w_impl_SeeLevels_cut) (keep := w_impl_SeeLevels_keep) (tab_cons ok_impl_SeeLevel tab_nil) Try.func20 (by kernel_rfl) rfl
noncomputable def H_impl_SeeLevels_3 (X : (Bool × Bool × Int) × (List Bool) × Unit) (v0 : List Bool) (v1 : Int) (v2 : Int) (v3 : Bool) (v4 : Bool) (v5 : Int) (v6 : Bool) (v7 : Bool) (v8 : Int) (v9 : List Int) : Option ((Unit) × (Bool × Bool × Int) × (List Int) × Unit) := lim fun j => w_impl_SeeLevels_3 F_impl_SeeLevel j X v0 v1 v2 v3 v4 v5 v6 v7 v8 v9
theorem H_impl_SeeLevels_3_eq (X : (Bool × Bool × Int) × (List Bool) × Unit) (v0 : List Bool) (v1 : Int) (v2 : Int) (v3 : Bool) (v4 : Bool) (v5 : Int) (v6 : Bool) (v7 : Bool) (v8 : Int) (v9 : List Int) : H_impl_SeeLevels_3 X v0 v1 v2 v3 v4 v5 v6 v7 v8 v9 =
    if decide (v2 < v1) = true then
      if 0 ≤ v2 then
        if v2 < (↑v0.length : Int) then
          (F_impl_SeeLevel ((v3, (v4, v5)), ((v0.getD v2.toNat false), ()))).bind fun r0 =>
            if (v9.length + [r0.snd.snd.fst].length) * 8 ≤ 140737488355328 then
              H_impl_SeeLevels_3 X v0 v1 (IntKind.i64.wrap (v2 + 1)) (r0.snd.fst.fst) (r0.snd.fst.snd.fst) (r0.snd.fst.snd.snd) v6 v7 v8 (v9 ++ [r0.snd.snd.fst])
            else
              none
        else
          none
      else
        none
    else
      some ((), ((v3, (v4, v5)), (v9, ()))) := by
  show lim (fun j => w_impl_SeeLevels_3 F_impl_SeeLevel j X v0 v1 v2 v3 v4 v5 v6 v7 v8 v9) = _
  rw [lim_succ (G := fun j => w_impl_SeeLevels_3 F_impl_SeeLevel j X v0 v1 v2 v3 v4 v5 v6 v7 v8 v9) (fun j r h => run_mono _ _ _ _ h)]
  simp only [w_impl_SeeLevels_3_step, lim_ite, lim_bind, lim_const]
  all_goals rfl
theorem F_impl_SeeLevels_eq (X : (Bool × Bool × Int) × (List Bool) × Unit) : F_impl_SeeLevels X =
    H_impl_SeeLevels_3 X (X.snd.fst) ((↑(List.length X.snd.fst) : Int)) 0 (X.fst.fst) (X.fst.snd.fst) (X.fst.snd.snd) false false 0 [] := by
  show lim (fun j => whole Try.prog (w_impl_SeeLevels_Γ F_impl_SeeLevel) Try.f20 w_impl_SeeLevels_cut w_impl_SeeLevels_keep ps_impl_SeeLevels rs_impl_SeeLevels j X) = _
  rw [lim_succ (fun j r h => whole_mono j r h)]
  simp only [w_impl_SeeLevels_0, lim_ite, lim_bind, lim_const]
  all_goals rfl

/-! ### laws.eqConnector -/
abbrev ps_laws_eqConnector : List PK := [(.val true (.pair .bool (.pair .bool (.int .i64)))), (.val true (.pair .bool (.pair .bool (.int .i64))))]
abbrev rs_laws_eqConnector : List RK := [(.own false .bool)]
section
abbrev w_laws_eqConnector_keep : Nat → List Nat := kp []
abbrev w_laws_eqConnector_cut : Nat → Bool := memC []
abbrev w_laws_eqConnector_Γ : Nat → Option Sig := tab []
theorem w_laws_eqConnector_0 (j : Nat) (X : dens ps_laws_eqConnector) : whole Try.prog w_laws_eqConnector_Γ Try.f28 w_laws_eqConnector_cut w_laws_eqConnector_keep ps_laws_eqConnector rs_laws_eqConnector (j + 1) X =
    if (!X.fst.fst == X.snd.fst.fst) = true then
      some ((), (false, ()))
    else
      if (!X.fst.snd.fst == X.snd.fst.snd.fst) = true then
        some ((), (false, ()))
      else
        if (X.fst.snd.snd != X.snd.fst.snd.snd) = true then
          some ((), (false, ()))
        else
          some ((), (true, ())) := by kernel_rfl
end
noncomputable def F_laws_eqConnector : (Bool × Bool × Int) × (Bool × Bool × Int) × Unit → Option ((Unit) × Bool × Unit) := (sigOf Try.prog (w_laws_eqConnector_Γ) Try.f28 w_laws_eqConnector_cut w_laws_eqConnector_keep ps_laws_eqConnector rs_laws_eqConnector).F
theorem ok_laws_eqConnector : FnOk Try.prog 28 ⟨ps_laws_eqConnector, rs_laws_eqConnector, F_laws_eqConnector⟩ := sigOk (Γ := w_laws_eqConnector_Γ) (cut := w_laws_eqConnector_cut) (keep := w_laws_eqConnector_keep) tab_nil Try.func28 (by kernel_rfl) rfl
theorem F_laws_eqConnector_eq (X : (Bool × Bool × Int) × (Bool × Bool × Int) × Unit) : F_laws_eqConnector X =
    if (!X.fst.fst == X.snd.fst.fst) = true then
      some ((), (false, ()))
    else
      if (!X.fst.snd.fst == X.snd.fst.snd.fst) = true then
        some ((), (false, ()))
      else
        if (X.fst.snd.snd != X.snd.fst.snd.snd) = true then
          some ((), (false, ()))
        else
          some ((), (true, ())) := by
  show lim (fun j => whole Try.prog (w_laws_eqConnector_Γ) Try.f28 w_laws_eqConnector_cut w_laws_eqConnector_keep ps_laws_eqConnector rs_laws_eqConnector j X) = _
  rw [lim_succ (fun j r h => whole_mono j r h)]
  simp only [w_laws_eqConnector_0, lim_ite, lim_bind, lim_const]
  all_goals rfl

/-! ### laws.eqIntS -/
abbrev ps_laws_eqIntS : List PK := [(.val false (.sl 3 (.int .i64))), (.val false (.sl 3 (.int .i64)))]
abbrev rs_laws_eqIntS : List RK := [(.own false .bool)]
section
abbrev w_laws_eqIntS_keep : Nat → List Nat := kp [(4, [0, 1, 5])]
abbrev w_laws_eqIntS_cut : Nat → Bool := memC []
abbrev w_laws_eqIntS_Γ : Nat → Option Sig := tab []
noncomputable def w_laws_eqIntS_4 (j : Nat) (X : dens ps_laws_eqIntS) (v0 : List (Ty.den (.int .i64))) (v1 : List (Ty.den (.int .i64))) (v2 : Int) : Option (outs ps_laws_eqIntS × rdens rs_laws_eqIntS) := run Try.prog w_laws_eqIntS_Γ (fin Try.prog Try.f32 ps_laws_eqIntS rs_laws_eqIntS X) w_laws_eqIntS_cut (resvP ps_laws_eqIntS X startN) w_laws_eqIntS_keep j (headTodo 4 (bodyOf Try.f32))
  ⟨sparse 26 0 [(0, (.c (.bor 3 (.int .i64) v0))), (1, (.c (.bor 3 (.int .i64) v1))), (5, (.c (.int .i64 v2)))], []⟩
theorem w_laws_eqIntS_0 (j : Nat) (X : dens ps_laws_eqIntS) : whole Try.prog w_laws_eqIntS_Γ Try.f32 w_laws_eqIntS_cut w_laws_eqIntS_keep ps_laws_eqIntS rs_laws_eqIntS (j + 1) X =
    if ((↑(List.length X.fst) : Int) != (↑(List.length X.snd.fst) : Int)) = true then
      some ((), (false, ()))
    else
      w_laws_eqIntS_4 j X (X.fst) (X.snd.fst) 0 := by kernel_rfl
theorem w_laws_eqIntS_4_step (j : Nat) (X : dens ps_laws_eqIntS) (v0 : List (Ty.den (.int .i64))) (v1 : List (Ty.den (.int .i64))) (v2 : Int) : w_laws_eqIntS_4 (j + 1) X v0 v1 v2 =
    if decide (v2 < (↑v0.length : Int)) = true then
      if 0 ≤ v2 then
        if v2 < (↑v0.length : Int) then
          if 0 ≤ v2 then
            if v2 < (↑v1.length : Int) then
              if (v0.getD v2.toNat (Ty.int IntKind.i64).z != v1.getD v2.toNat (Ty.int IntKind.i64).z) = true then
                some ((), (false, ()))
              else
                w_laws_eqIntS_4 j X v0 v1 (IntKind.i64.wrap (v2 + 1))
            else
              none
          else
            none
        else
          none
      else
        none
    else
      some ((), (true, ())) := by kernel_rfl
end
noncomputable def F_laws_eqIntS : (List Int) × (List Int) × Unit → Option ((Unit) × Bool × Unit) := (sigOf Try.prog (w_laws_eqIntS_Γ) Try.f32 w_laws_eqIntS_cut w_laws_eqIntS_keep ps_laws_eqIntS rs_laws_eqIntS).F
theorem ok_laws_eqIntS : FnOk Try.prog 32 ⟨ps_laws_eqIntS, rs_laws_eqIntS, F_laws_eqIntS⟩ := sigOk (Γ := w_laws_eqIntS_Γ) (cut := w_laws_eqIntS_cut) (keep := w_laws_eqIntS_keep) tab_nil Try.func32 (by kernel_rfl) rfl
noncomputable def H_laws_eqIntS_4 (X : (List Int) × (List Int) × Unit) (v0 : List Int) (v1 : List Int) (v2 : Int) : Option ((Unit) × Bool × Unit) := lim fun j => w_laws_eqIntS_4 j X v0 v1 v2
theorem H_laws_eqIntS_4_eq (X : (List Int) × (List Int) × Unit) (v0 : List Int) (v1 : List Int) (v2 : Int) : H_laws_eqIntS_4 X v0 v1 v2 =
    if decide (v2 < (↑v0.length : Int)) = true then
      if 0 ≤ v2 then
        if v2 < (↑v0.length : Int) then
          if 0 ≤ v2 then
            if v2 < (↑v1.length : Int) then
              if (v0.getD v2.toNat (0 : Int) != v1.getD v2.toNat (0 : Int)) = true then
                some ((), (false, ()))
              else
                H_laws_eqIntS_4 X v0 v1 (IntKind.i64.wrap (v2 + 1))
            else
              none
          else
            none
        else
          none
      else
        none
    else
      some ((), (true, ())) := by
  show lim (fun j => w_laws_eqIntS_4 j X v0 v1 v2) = _
  rw [lim_succ (G := fun j => w_laws_eqIntS_4 j X v0 v1 v2) (fun j r h => run_mono _ _ _ _ h)]
  simp only [w_laws_eqIntS_4_step, lim_ite, lim_bind, lim_const]
  all_goals rfl
theorem F_laws_eqIntS_eq (X : (List Int) × (List Int) × Unit) : F_laws_eqIntS X =
    if ((↑(List.length X.fst) : Int) != (↑(List.length X.snd.fst) : Int)) = true then
      some ((), (false, ()))
    else
      H_laws_eqIntS_4 X (X.fst) (X.snd.fst) 0 := by
  show lim (fun j => whole Try.prog (w_laws_eqIntS_Γ) Try.f32 w_laws_eqIntS_cut w_laws_eqIntS_keep ps_laws_eqIntS rs_laws_eqIntS j X) = _
  rw [lim_succ (fun j r h => whole_mono j r h)]
  simp only [w_laws_eqIntS_0, lim_ite, lim_bind, lim_const]
  all_goals rfl

/-! ### laws.markIntS -/
abbrev ps_laws_markIntS : List PK := [(.mu false (.sl 3 (.int .i64))), (.val false (.int .i64))]
abbrev rs_laws_markIntS : List RK := [(.own false (.int .i64))]
section
abbrev w_laws_markIntS_keep : Nat → List Nat := kp [(2, [0, 1, 5])]
abbrev w_laws_markIntS_cut : Nat → Bool := memC []
abbrev w_laws_markIntS_Γ : Nat → Option Sig := tab []
noncomputable def w_laws_markIntS_2 (j : Nat) (X : dens ps_laws_markIntS) (v0 : Int) (v1 : Int) (v2 : List (Ty.den (.int .i64))) : Option (outs ps_laws_markIntS × rdens rs_laws_markIntS) := run Try.prog w_laws_markIntS_Γ (fin Try.prog Try.f33 ps_laws_markIntS rs_laws_markIntS X) w_laws_markIntS_cut (resvP ps_laws_markIntS X startN) w_laws_markIntS_keep j (headTodo 2 (bodyOf Try.f33))
  ⟨sparse 19 0 [(0, (.c (.own 19200000))), (1, (.c (.int .i64 v0))), (5, (.c (.int .i64 v1)))], [(19200000, (.row true 0 3 (.int .i64) v2))]⟩
theorem w_laws_markIntS_0 (j : Nat) (X : dens ps_laws_markIntS) : whole Try.prog w_laws_markIntS_Γ Try.f33 w_laws_markIntS_cut w_laws_markIntS_keep ps_laws_markIntS rs_laws_markIntS (j + 1) X =
    w_laws_markIntS_2 j X (X.snd.fst) 0 (X.fst) := by kernel_rfl
theorem w_laws_markIntS_2_step (j : Nat) (X : dens ps_laws_markIntS) (v0 : Int) (v1 : Int) (v2 : List (Ty.den (.int .i64))) : w_laws_markIntS_2 (j + 1) X v0 v1 v2 =
    if decide (v1 < (↑v2.length : Int)) = true then
      if 0 ≤ v1 then
        if v1 < (↑v2.length : Int) then
          w_laws_markIntS_2 j X (IntKind.i64.wrap (v0 + 1)) (IntKind.i64.wrap (v1 + 1)) (v2.set v1.toNat v0)
        else
          none
      else
        none
    else
      some ((v2, ()), (v0, ())) := by kernel_rfl
end
noncomputable def F_laws_markIntS : (List Int) × Int × Unit → Option (((List Int) × Unit) × Int × Unit) := (sigOf Try.prog (w_laws_markIntS_Γ) Try.f33 w_laws_markIntS_cut w_laws_markIntS_keep ps_laws_markIntS rs_laws_markIntS).F
theorem ok_laws_markIntS : FnOk Try.prog 33 ⟨ps_laws_markIntS, rs_laws_markIntS, F_laws_markIntS⟩ := sigOk (Γ := w_laws_markIntS_Γ) (cut := w_laws_markIntS_cut) (keep := w_laws_markIntS_keep) tab_nil Try.func33 (by kernel_rfl) rfl
noncomputable def H_laws_markIntS_2 (X : (List Int) × Int × Unit) (v0 : Int) (v1 : Int) (v2 : List Int) : Option (((List Int) × Unit) × Int × Unit) := lim fun j => w_laws_markIntS_2 j X v0 v1 v2
theorem H_laws_markIntS_2_eq (X : (List Int) × Int × Unit) (v0 : Int) (v1 : Int) (v2 : List Int) : H_laws_markIntS_2 X v0 v1 v2 =
    if decide (v1 < (↑v2.length : Int)) = true then
      if 0 ≤ v1 then
        if v1 < (↑v2.length : Int) then
          H_laws_markIntS_2 X (IntKind.i64.wrap (v0 + 1)) (IntKind.i64.wrap (v1 + 1)) (v2.set v1.toNat v0)
        else
          none
      else
        none
    else
      some ((v2, ()), (v0, ())) := by
  show lim (fun j => w_laws_markIntS_2 j X v0 v1 v2) = _
  rw [lim_succ (G := fun j => w_laws_markIntS_2 j X v0 v1 v2) (fun j r h => run_mono _ _ _ _ h)]
  simp only [w_laws_markIntS_2_step, lim_ite, lim_bind, lim_const]
  all_goals rfl
theorem F_laws_markIntS_eq (X : (List Int) × Int × Unit) : F_laws_markIntS X =
    H_laws_markIntS_2 X (X.snd.fst) 0 (X.fst) := by
  show lim (fun j => whole Try.prog (w_laws_markIntS_Γ) Try.f33 w_laws_markIntS_cut w_laws_markIntS_keep ps_laws_markIntS rs_laws_markIntS j X) = _
  rw [lim_succ (fun j r h => whole_mono j r h)]
  simp only [w_laws_markIntS_0, lim_ite, lim_bind, lim_const]
  all_goals rfl

/-! ### laws.heldIntS -/
abbrev ps_laws_heldIntS : List PK := [(.val false (.sl 3 (.int .i64))), (.val false (.int .i64))]
abbrev rs_laws_heldIntS : List RK := [(.own false (.int .i64))]
section
abbrev w_laws_heldIntS_keep : Nat → List Nat := kp [(2, [0, 1, 5])]
abbrev w_laws_heldIntS_cut : Nat → Bool := memC []
abbrev w_laws_heldIntS_Γ : Nat → Option Sig := tab []
noncomputable def w_laws_heldIntS_2 (j : Nat) (X : dens ps_laws_heldIntS) (v0 : List (Ty.den (.int .i64))) (v1 : Int) (v2 : Int) : Option (outs ps_laws_heldIntS × rdens rs_laws_heldIntS) := run Try.prog w_laws_heldIntS_Γ (fin Try.prog Try.f34 ps_laws_heldIntS rs_laws_heldIntS X) w_laws_heldIntS_cut (resvP ps_laws_heldIntS X startN) w_laws_heldIntS_keep j (headTodo 2 (bodyOf Try.f34))
  ⟨sparse 21 0 [(0, (.c (.bor 3 (.int .i64) v0))), (1, (.c (.int .i64 v1))), (5, (.c (.int .i64 v2)))], []⟩
theorem w_laws_heldIntS_0 (j : Nat) (X : dens ps_laws_heldIntS) : whole Try.prog w_laws_heldIntS_Γ Try.f34 w_laws_heldIntS_cut w_laws_heldIntS_keep ps_laws_heldIntS rs_laws_heldIntS (j + 1) X =
    w_laws_heldIntS_2 j X (X.fst) (X.snd.fst) 0 := by kernel_rfl
theorem w_laws_heldIntS_2_step (j : Nat) (X : dens ps_laws_heldIntS) (v0 : List (Ty.den (.int .i64))) (v1 : Int) (v2 : Int) : w_laws_heldIntS_2 (j + 1) X v0 v1 v2 =
    if decide (v2 < (↑v0.length : Int)) = true then
      if 0 ≤ v2 then
        if v2 < (↑v0.length : Int) then
          if (v0.getD v2.toNat (Ty.int IntKind.i64).z != v1) = true then
            some ((), ((Int.negSucc 0), ()))
          else
            w_laws_heldIntS_2 j X v0 (IntKind.i64.wrap (v1 + 1)) (IntKind.i64.wrap (v2 + 1))
        else
          none
      else
        none
    else
      some ((), (v1, ())) := by kernel_rfl
end
noncomputable def F_laws_heldIntS : (List Int) × Int × Unit → Option ((Unit) × Int × Unit) := (sigOf Try.prog (w_laws_heldIntS_Γ) Try.f34 w_laws_heldIntS_cut w_laws_heldIntS_keep ps_laws_heldIntS rs_laws_heldIntS).F
theorem ok_laws_heldIntS : FnOk Try.prog 34 ⟨ps_laws_heldIntS, rs_laws_heldIntS, F_laws_heldIntS⟩ := sigOk (Γ := w_laws_heldIntS_Γ) (cut := w_laws_heldIntS_cut) (keep := w_laws_heldIntS_keep) tab_nil Try.func34 (by kernel_rfl) rfl
noncomputable def H_laws_heldIntS_2 (X : (List Int) × Int × Unit) (v0 : List Int) (v1 : Int) (v2 : Int) : Option ((Unit) × Int × Unit) := lim fun j => w_laws_heldIntS_2 j X v0 v1 v2
theorem H_laws_heldIntS_2_eq (X : (List Int) × Int × Unit) (v0 : List Int) (v1 : Int) (v2 : Int) : H_laws_heldIntS_2 X v0 v1 v2 =
    if decide (v2 < (↑v0.length : Int)) = true then
      if 0 ≤ v2 then
        if v2 < (↑v0.length : Int) then
          if (v0.getD v2.toNat (0 : Int) != v1) = true then
            some ((), ((Int.negSucc 0), ()))
          else
            H_laws_heldIntS_2 X v0 (IntKind.i64.wrap (v1 + 1)) (IntKind.i64.wrap (v2 + 1))
        else
          none
      else
        none
    else
      some ((), (v1, ())) := by
  show lim (fun j => w_laws_heldIntS_2 j X v0 v1 v2) = _
  rw [lim_succ (G := fun j => w_laws_heldIntS_2 j X v0 v1 v2) (fun j r h => run_mono _ _ _ _ h)]
  simp only [w_laws_heldIntS_2_step, lim_ite, lim_bind, lim_const]
  all_goals rfl
theorem F_laws_heldIntS_eq (X : (List Int) × Int × Unit) : F_laws_heldIntS X =
    H_laws_heldIntS_2 X (X.fst) (X.snd.fst) 0 := by
  show lim (fun j => whole Try.prog (w_laws_heldIntS_Γ) Try.f34 w_laws_heldIntS_cut w_laws_heldIntS_keep ps_laws_heldIntS rs_laws_heldIntS j X) = _
  rw [lim_succ (fun j r h => whole_mono j r h)]
  simp only [w_laws_heldIntS_0, lim_ite, lim_bind, lim_const]
  all_goals rfl

/-! ### spec.l01In -/
abbrev ps_spec_l01In : List PK := [(.val false (.int .i64)), (.val false (.int .i64)), (.val false (.int .i64))]
abbrev rs_spec_l01In : List RK := [(.own false .bool)]
section
abbrev w_spec_l01In_keep : Nat → List Nat := kp []
abbrev w_spec_l01In_cut : Nat → Bool := memC []
abbrev w_spec_l01In_Γ : Nat → Option Sig := tab []
theorem w_spec_l01In_0 (j : Nat) (X : dens ps_spec_l01In) : whole Try.prog w_spec_l01In_Γ Try.f63 w_spec_l01In_cut w_spec_l01In_keep ps_spec_l01In rs_spec_l01In (j + 1) X =
    if decide (X.fst ≥ X.snd.fst) = true then
      some ((), ((decide (X.fst ≤ X.snd.snd.fst)), ()))
    else
      some ((), (false, ())) := by kernel_rfl
end
noncomputable def F_spec_l01In : Int × Int × Int × Unit → Option ((Unit) × Bool × Unit) := (sigOf Try.prog (w_spec_l01In_Γ) Try.f63 w_spec_l01In_cut w_spec_l01In_keep ps_spec_l01In rs_spec_l01In).F
theorem ok_spec_l01In : FnOk Try.prog 63 ⟨ps_spec_l01In, rs_spec_l01In, F_spec_l01In⟩ := sigOk (Γ := w_spec_l01In_Γ) (cut := w_spec_l01In_cut) (keep := w_spec_l01In_keep) tab_nil Try.func63 (by kernel_rfl) rfl
theorem F_spec_l01In_eq (X : Int × Int × Int × Unit) : F_spec_l01In X =
    if decide (X.fst ≥ X.snd.fst) = true then
      some ((), ((decide (X.fst ≤ X.snd.snd.fst)), ()))
    else
      some ((), (false, ())) := by
  show lim (fun j => whole Try.prog (w_spec_l01In_Γ) Try.f63 w_spec_l01In_cut w_spec_l01In_keep ps_spec_l01In rs_spec_l01In j X) = _
  rw [lim_succ (fun j r h => whole_mono j r h)]
  simp only [w_spec_l01In_0, lim_ite, lim_bind, lim_const]
  all_goals rfl

/-! ### spec.ConnectorOk -/
abbrev ps_spec_ConnectorOk : List PK := [(.val true (.pair .bool (.pair .bool (.int .i64))))]
abbrev rs_spec_ConnectorOk : List RK := [(.own false .bool)]
section
variable (F_spec_l01In : dens ps_spec_l01In → Option (outs ps_spec_l01In × rdens rs_spec_l01In))
abbrev w_spec_ConnectorOk_keep : Nat → List Nat := kp []
abbrev w_spec_ConnectorOk_cut : Nat → Bool := memC []
abbrev w_spec_ConnectorOk_Γ : Nat → Option Sig := tab [(63, ⟨ps_spec_l01In, rs_spec_l01In, F_spec_l01In⟩)]
theorem w_spec_ConnectorOk_0 (j : Nat) (X : dens ps_spec_ConnectorOk) : whole Try.prog (w_spec_ConnectorOk_Γ F_spec_l01In) Try.f15 w_spec_ConnectorOk_cut w_spec_ConnectorOk_keep ps_spec_ConnectorOk rs_spec_ConnectorOk (j + 1) X =
    if (X.fst.snd.fst == X.fst.fst) = true then
      some ((), ((X.fst.snd.snd == 0), ()))
    else
      (F_spec_l01In ((X.fst.snd.snd), (1, (1, ())))).bind fun r0 =>
        some ((), ((r0.snd.fst), ())) := by kernel_rfl
end
noncomputable def F_spec_ConnectorOk : (Bool × Bool × Int) × Unit → Option ((Unit) × Bool × Unit) := (sigOf Try.prog (w_spec_ConnectorOk_Γ F_spec_l01In) Try.f15 w_spec_ConnectorOk_cut w_spec_ConnectorOk_keep ps_spec_ConnectorOk rs_spec_ConnectorOk).F
theorem ok_spec_ConnectorOk : FnOk Try.prog 15 ⟨ps_spec_ConnectorOk, rs_spec_ConnectorOk, F_spec_ConnectorOk⟩ := sigOk (Γ := w_spec_ConnectorOk_Γ F_spec_l01In) (cut := w_spec_ConnectorOk_cut) (keep := w_spec_ConnectorOk_keep) (tab_cons ok_spec_l01In tab_nil) Try.func15 (by kernel_rfl) rfl
theorem F_spec_ConnectorOk_eq (X : (Bool × Bool × Int) × Unit) : F_spec_ConnectorOk X =
    if (X.fst.snd.fst == X.fst.fst) = true then
      some ((), ((X.fst.snd.snd == 0), ()))
    else
      (F_spec_l01In ((X.fst.snd.snd), (1, (1, ())))).bind fun r0 =>
        some ((), ((r0.snd.fst), ())) := by
  show lim (fun j => whole Try.prog (w_spec_ConnectorOk_Γ F_spec_l01In) Try.f15 w_spec_ConnectorOk_cut w_spec_ConnectorOk_keep ps_spec_ConnectorOk rs_spec_ConnectorOk j X) = _
  rw [lim_succ (fun j r h => whole_mono j r h)]
  simp only [w_spec_ConnectorOk_0, lim_ite, lim_bind, lim_const]
  all_goals rfl

/-! ### spec.SeeLevel -/
abbrev ps_spec_SeeLevel : List PK := [(.val true (.pair .bool (.pair .bool (.int .i64)))), (.val false .bool)]
abbrev rs_spec_SeeLevel : List RK := [(.own true (.pair .bool (.pair .bool (.int .i64)))), (.own false (.int .i64))]
section
variable (F_spec_ConnectorOk : dens ps_spec_ConnectorOk → Option (outs ps_spec_ConnectorOk × rdens rs_spec_ConnectorOk))
abbrev w_spec_SeeLevel_keep : Nat → List Nat := kp []
abbrev w_spec_SeeLevel_cut : Nat → Bool := memC []
abbrev w_spec_SeeLevel_Γ : Nat → Option Sig := tab [(15, ⟨ps_spec_ConnectorOk, rs_spec_ConnectorOk, F_spec_ConnectorOk⟩)]
theorem w_spec_SeeLevel_0 (j : Nat) (X : dens ps_spec_SeeLevel) : whole Try.prog (w_spec_SeeLevel_Γ F_spec_ConnectorOk) Try.f26 w_spec_SeeLevel_cut w_spec_SeeLevel_keep ps_spec_SeeLevel rs_spec_SeeLevel (j + 1) X =
    (F_spec_ConnectorOk (((X.fst.fst), ((X.fst.snd.fst), (X.fst.snd.snd))), ())).bind fun r0 =>
      if (!r0.snd.fst) = true then
        some ((), (((X.fst.fst), ((X.fst.snd.fst), (X.fst.snd.snd))), (0, ())))
      else
        if (X.snd.fst == X.fst.fst) = true then
          some ((), (((X.fst.fst), ((X.snd.fst), 0)), (0, ())))
        else
          if decide (IntKind.i64.wrap (X.fst.snd.snd + 1) < 2) = true then
            some ((), (((X.fst.fst), ((X.snd.fst), (IntKind.i64.wrap (X.fst.snd.snd + 1)))), (0, ())))
          else
            if X.snd.fst = true then
              some ((), (((X.snd.fst), ((X.snd.fst), 0)), (1, ())))
            else
              some ((), (((X.snd.fst), ((X.snd.fst), 0)), (2, ()))) := by kernel_rfl
end
noncomputable def F_spec_SeeLevel : (Bool × Bool × Int) × Bool × Unit → Option ((Unit) × (Bool × Bool × Int) × Int × Unit) := (sigOf Try.prog (w_spec_SeeLevel_Γ F_spec_ConnectorOk) Try.f26 w_spec_SeeLevel_cut w_spec_SeeLevel_keep ps_spec_SeeLevel rs_spec_SeeLevel).F
theorem ok_spec_SeeLevel : FnOk Try.prog 26 ⟨ps_spec_SeeLevel, rs_spec_SeeLevel, F_spec_SeeLevel⟩ := sigOk (Γ := w_spec_SeeLevel_Γ F_spec_ConnectorOk) (cut := w_spec_SeeLevel_cut) (keep := w_spec_SeeLevel_keep) (tab_cons ok_spec_ConnectorOk tab_nil) Try.func26 (by kernel_rfl) rfl
theorem F_spec_SeeLevel_eq (X : (Bool × Bool × Int) × Bool × Unit) : F_spec_SeeLevel X =
    (F_spec_ConnectorOk (((X.fst.fst), ((X.fst.snd.fst), (X.fst.snd.snd))), ())).bind fun r0 =>
      if (!r0.snd.fst) = true then
        some ((), (((X.fst.fst), ((X.fst.snd.fst), (X.fst.snd.snd))), (0, ())))
      else
        if (X.snd.fst == X.fst.fst) = true then
          some ((), (((X.fst.fst), ((X.snd.fst), 0)), (0, ())))
        else
          if decide (IntKind.i64.wrap (X.fst.snd.snd + 1) < 2) = true then
            some ((), (((X.fst.fst), ((X.snd.fst), (IntKind.i64.wrap (X.fst.snd.snd + 1)))), (0, ())))
          else
            if X.snd.fst = true then
              some ((), (((X.snd.fst), ((X.snd.fst), 0)), (1, ())))
            else
              some ((), (((X.snd.fst), ((X.snd.fst), 0)), (2, ()))) := by
  show lim (fun j => whole Try.prog (w_spec_SeeLevel_Γ F_spec_ConnectorOk) Try.f26 w_spec_SeeLevel_cut w_spec_SeeLevel_keep ps_spec_SeeLevel rs_spec_SeeLevel j X) = _
  rw [lim_succ (fun j r h => whole_mono j r h)]
  simp only [w_spec_SeeLevel_0, lim_ite, lim_bind, lim_const]
  all_goals rfl

/-! ### spec.SeeLevels -/
abbrev ps_spec_SeeLevels : List PK := [(.val true (.pair .bool (.pair .bool (.int .i64)))), (.val false (.sl 4 .bool))]
abbrev rs_spec_SeeLevels : List RK := [(.own true (.pair .bool (.pair .bool (.int .i64)))), (.own false (.sl 3 (.int .i64)))]
section
variable (F_spec_SeeLevel : dens ps_spec_SeeLevel → Option (outs ps_spec_SeeLevel × rdens rs_spec_SeeLevel))
abbrev w_spec_SeeLevels_keep : Nat → List Nat := kp [(3, [1, 2, 4, 6, 7])]
abbrev w_spec_SeeLevels_cut : Nat → Bool := memC []
abbrev w_spec_SeeLevels_Γ : Nat → Option Sig := tab [(26, ⟨ps_spec_SeeLevel, rs_spec_SeeLevel, F_spec_SeeLevel⟩)]
noncomputable def w_spec_SeeLevels_3 (j : Nat) (X : dens ps_spec_SeeLevels) (v0 : List (Ty.den .bool)) (v1 : Int) (v2 : Bool) (v3 : Bool) (v4 : Int) (v5 : Bool) (v6 : Bool) (v7 : Int) (v8 : List (Ty.den (.int .i64))) : Option (outs ps_spec_SeeLevels × rdens rs_spec_SeeLevels) := run Try.prog (w_spec_SeeLevels_Γ F_spec_SeeLevel) (fin Try.prog Try.f54 ps_spec_SeeLevels rs_spec_SeeLevels X) w_spec_SeeLevels_cut (resvP ps_spec_SeeLevels X startN) w_spec_SeeLevels_keep j (headTodo 3 (bodyOf Try.f54))
  ⟨sparse 33 0 [(1, (.c (.bor 4 .bool v0))), (2, (.c (.ptr 19300000 0))), (4, (.c (.ptr 19300001 0))), (6, (.c (.own 19300002))), (7, (.c (.int .i64 v1)))], [(19300000, (.cells 25 [(.bool v2), (.bool v3), (.int .i64 v4)])), (19300001, (.cells 25 [(.bool v5), (.bool v6), (.int .i64 v7)])), (19300002, (.row true 0 3 (.int .i64) v8))]⟩
theorem w_spec_SeeLevels_0 (j : Nat) (X : dens ps_spec_SeeLevels) : whole Try.prog (w_spec_SeeLevels_Γ F_spec_SeeLevel) Try.f54 w_spec_SeeLevels_cut w_spec_SeeLevels_keep ps_spec_SeeLevels rs_spec_SeeLevels (j + 1) X =
    w_spec_SeeLevels_3 F_spec_SeeLevel j X (X.snd.fst) 0 (X.fst.fst) (X.fst.snd.fst) (X.fst.snd.snd) false false 0 [] := by kernel_rfl
theorem w_spec_SeeLevels_3_step (j : Nat) (X : dens ps_spec_SeeLevels) (v0 : List (Ty.den .bool)) (v1 : Int) (v2 : Bool) (v3 : Bool) (v4 : Int) (v5 : Bool) (v6 : Bool) (v7 : Int) (v8 : List (Ty.den (.int .i64))) : w_spec_SeeLevels_3 F_spec_SeeLevel (j + 1) X v0 v1 v2 v3 v4 v5 v6 v7 v8 =
    if decide (v1 < (↑v0.length : Int)) = true then
      if 0 ≤ v1 then
        if v1 < (↑v0.length : Int) then
          (F_spec_SeeLevel ((v2, (v3, v4)), ((v0.getD v1.toNat Ty.bool.z), ()))).bind fun r0 =>
            if (v8.length + [r0.snd.snd.fst].length) * 8 ≤ 140737488355328 then
              w_spec_SeeLevels_3 F_spec_SeeLevel j X v0 (IntKind.i64.wrap (v1 + 1)) (r0.snd.fst.fst) (r0.snd.fst.snd.fst) (r0.snd.fst.snd.snd) v5 v6 v7 (v8 ++ [r0.snd.snd.fst])
            else
              none
        else
          none
      else
        none
    else
      some ((), ((v2, (v3, v4)), (v8, ()))) := by kernel_rfl
end
noncomputable def F_spec_SeeLevels : (Bool × Bool × Int) × (List Bool) × Unit → Option ((Unit) × (Bool × Bool × Int) × (List Int) × Unit) := (sigOf Try.prog (w_spec_SeeLevels_Γ F_spec_SeeLevel) Try.f54 w_spec_SeeLevels_cut w_spec_SeeLevels_keep ps_spec_SeeLevels rs_spec_SeeLevels).F
theorem ok_spec_SeeLevels : FnOk Try.prog 54 ⟨ps_spec_SeeLevels, rs_spec_SeeLevels, F_spec_SeeLevels⟩ := sigOk (Γ := w_spec_SeeLevels_Γ F_spec_SeeLevel) (cut := w_spec_SeeLevels_cut) (keep := w_spec_SeeLevels_keep) (tab_cons ok_spec_SeeLevel tab_nil) Try.func54 (by kernel_rfl) rfl
noncomputable def H_spec_SeeLevels_3 (X : (Bool × Bool × Int) × (List Bool) × Unit) (v0 : List Bool) (v1 : Int) (v2 : Bool) (v3 : Bool) (v4 : Int) (v5 : Bool) (v6 : Bool) (v7 : Int) (v8 : List Int) : Option ((Unit) × (Bool × Bool × Int) × (List Int) × Unit) := lim fun j => w_spec_SeeLevels_3 F_spec_SeeLevel j X v0 v1 v2 v3 v4 v5 v6 v7 v8
theorem H_spec_SeeLevels_3_eq (X : (Bool × Bool × Int) × (List Bool) × Unit) (v0 : List Bool) (v1 : Int) (v2 : Bool) (v3 : Bool) (v4 : Int) (v5 : Bool) (v6 : Bool) (v7 : Int) (v8 : List Int) : H_spec_SeeLevels_3 X v0 v1 v2 v3 v4 v5 v6 v7 v8 =
    if decide (v1 < (↑v0.length : Int)) = true then
      if 0 ≤ v1 then
        if v1 < (↑v0.length : Int) then
          (F_spec_SeeLevel ((v2, (v3, v4)), ((v0.getD v1.toNat false), ()))).bind fun r0 =>
            if (v8.length + [r0.snd.snd.fst].length) * 8 ≤ 140737488355328 then
              H_spec_SeeLevels_3 X v0 (IntKind.i64.wrap (v1 + 1)) (r0.snd.fst.fst) (r0.snd.fst.snd.fst) (r0.snd.fst.snd.snd) v5 v6 v7 (v8 ++ [r0.snd.snd.fst])
            else
              none
        else
          none
      else
        none
    else
      some ((), ((v2, (v3, v4)), (v8, ()))) := by
  show lim (fun j => w_spec_SeeLevels_3 F_spec_SeeLevel j X v0 v1 v2 v3 v4 v5 v6 v7 v8) = _
  rw [lim_succ (G := fun j => w_spec_SeeLevels_3 F_spec_SeeLevel j X v0 v1 v2 v3 v4 v5 v6 v7 v8) (fun j r h => run_mono _ _ _ _ h)]
  simp only [w_spec_SeeLevels_3_step, lim_ite, lim_bind, lim_const]
  all_goals rfl
theorem F_spec_SeeLevels_eq (X : (Bool × Bool × Int) × (List Bool) × Unit) : F_spec_SeeLevels X =
    H_spec_SeeLevels_3 X (X.snd.fst) 0 (X.fst.fst) (X.fst.snd.fst) (X.fst.snd.snd) false false 0 [] := by
  show lim (fun j => whole Try.prog (w_spec_SeeLevels_Γ F_spec_SeeLevel) Try.f54 w_spec_SeeLevels_cut w_spec_SeeLevels_keep ps_spec_SeeLevels rs_spec_SeeLevels j X) = _
  rw [lim_succ (fun j r h => whole_mono j r h)]
  simp only [w_spec_SeeLevels_0, lim_ite, lim_bind, lim_const]
  all_goals rfl

/-! ### laws.toBoolS -/
abbrev ps_laws_toBoolS : List PK := [(.val false (.sl 4 .bool))]
abbrev rs_laws_toBoolS : List RK := [(.own false (.sl 4 .bool))]
section
abbrev w_laws_toBoolS_keep : Nat → List Nat := kp [(3, [0, 3, 4])]
abbrev w_laws_toBoolS_cut : Nat → Bool := memC []
abbrev w_laws_toBoolS_Γ : Nat → Option Sig := tab []
noncomputable def w_laws_toBoolS_3 (j : Nat) (X : dens ps_laws_toBoolS) (v0 : List (Ty.den .bool)) (v1 : Int) (v2 : List (Ty.den .bool)) : Option (outs ps_laws_toBoolS × rdens rs_laws_toBoolS) := run Try.prog w_laws_toBoolS_Γ (fin Try.prog Try.f55 ps_laws_toBoolS rs_laws_toBoolS X) w_laws_toBoolS_cut (resvP ps_laws_toBoolS X startN) w_laws_toBoolS_keep j (headTodo 3 (bodyOf Try.f55))
  ⟨sparse 22 0 [(0, (.c (.bor 4 .bool v0))), (3, (.c (.own 19300000))), (4, (.c (.int .i64 v1)))], [(19300000, (.row true 0 4 .bool v2))]⟩
theorem w_laws_toBoolS_0 (j : Nat) (X : dens ps_laws_toBoolS) : whole Try.prog w_laws_toBoolS_Γ Try.f55 w_laws_toBoolS_cut w_laws_toBoolS_keep ps_laws_toBoolS rs_laws_toBoolS (j + 1) X =
    if (↑(List.length X.fst) : Int).toNat * 1 ≤ 281474976710656 then
      w_laws_toBoolS_3 j X (X.fst) 0 (List.replicate (↑(List.length X.fst) : Int).toNat false)
    else
      none := by kernel_rfl
theorem w_laws_toBoolS_3_step (j : Nat) (X : dens ps_laws_toBoolS) (v0 : List (Ty.den .bool)) (v1 : Int) (v2 : List (Ty.den .bool)) : w_laws_toBoolS_3 (j + 1) X v0 v1 v2 =
    if decide (v1 < (↑v0.length : Int)) = true then
      if 0 ≤ v1 then
        if v1 < (↑v0.length : Int) then
          if 0 ≤ v1 then
            if v1 < (↑v2.length : Int) then
              w_laws_toBoolS_3 j X v0 (IntKind.i64.wrap (v1 + 1)) (v2.set v1.toNat (v0.getD v1.toNat Ty.bool.z))
            else
              none
          else
            none
        else
          none
      else
        none
    else
      some ((), (v2, ())) := by kernel_rfl
end
noncomputable def F_laws_toBoolS : (List Bool) × Unit → Option ((Unit) × (List Bool) × Unit) := (sigOf Try.prog (w_laws_toBoolS_Γ) Try.f55 w_laws_toBoolS_cut w_laws_toBoolS_keep ps_laws_toBoolS rs_laws_toBoolS).F
theorem ok_laws_toBoolS : FnOk Try.prog 55 ⟨ps_laws_toBoolS, rs_laws_toBoolS, F_laws_toBoolS⟩ := sigOk (Γ := w_laws_toBoolS_Γ) (cut := w_laws_toBoolS_cut) (keep := w_laws_toBoolS_keep) tab_nil Try.func55 (by kernel_rfl) rfl
noncomputable def H_laws_toBoolS_3 (X : (List Bool) × Unit) (v0 : List Bool) (v1 : Int) (v2 : List Bool) : Option ((Unit) × (List Bool) × Unit) := lim fun j => w_laws_toBoolS_3 j X v0 v1 v2
theorem H_laws_toBoolS_3_eq (X : (List Bool) × Unit) (v0 : List Bool) (v1 : Int) (v2 : List Bool) : H_laws_toBoolS_3 X v0 v1 v2 =
    if decide (v1 < (↑v0.length : Int)) = true then
      if 0 ≤ v1 then
        if v1 < (↑v0.length : Int) then
          if 0 ≤ v1 then
            if v1 < (↑v2.length : Int) then
              H_laws_toBoolS_3 X v0 (IntKind.i64.wrap (v1 + 1)) (v2.set v1.toNat (v0.getD v1.toNat false))
            else
              none
          else
            none
        else
          none
      else
        none
    else
      some ((), (v2, ())) := by
  show lim (fun j => w_laws_toBoolS_3 j X v0 v1 v2) = _
  rw [lim_succ (G := fun j => w_laws_toBoolS_3 j X v0 v1 v2) (fun j r h => run_mono _ _ _ _ h)]
  simp only [w_laws_toBoolS_3_step, lim_ite, lim_bind, lim_const]
  all_goals rfl
theorem F_laws_toBoolS_eq (X : (List Bool) × Unit) : F_laws_toBoolS X =
    if (↑(List.length X.fst) : Int).toNat * 1 ≤ 281474976710656 then
      H_laws_toBoolS_3 X (X.fst) 0 (List.replicate (↑(List.length X.fst) : Int).toNat false)
    else
      none := by
  show lim (fun j => whole Try.prog (w_laws_toBoolS_Γ) Try.f55 w_laws_toBoolS_cut w_laws_toBoolS_keep ps_laws_toBoolS rs_laws_toBoolS j X) = _
  rw [lim_succ (fun j r h => whole_mono j r h)]
  simp only [w_laws_toBoolS_0, lim_ite, lim_bind, lim_const]
  all_goals rfl

/-! ### laws.eqBoolS -/
abbrev ps_laws_eqBoolS : List PK := [(.val false (.sl 4 .bool)), (.val false (.sl 4 .bool))]
abbrev rs_laws_eqBoolS : List RK := [(.own false .bool)]
section
abbrev w_laws_eqBoolS_keep : Nat → List Nat := kp [(4, [0, 1, 5])]
abbrev w_laws_eqBoolS_cut : Nat → Bool := memC []
abbrev w_laws_eqBoolS_Γ : Nat → Option Sig := tab []
noncomputable def w_laws_eqBoolS_4 (j : Nat) (X : dens ps_laws_eqBoolS) (v0 : List (Ty.den .bool)) (v1 : List (Ty.den .bool)) (v2 : Int) : Option (outs ps_laws_eqBoolS × rdens rs_laws_eqBoolS) := run Try.prog w_laws_eqBoolS_Γ (fin Try.prog Try.f56 ps_laws_eqBoolS rs_laws_eqBoolS X) w_laws_eqBoolS_cut (resvP ps_laws_eqBoolS X startN) w_laws_eqBoolS_keep j (headTodo 4 (bodyOf Try.f56))
  ⟨sparse 26 0 [(0, (.c (.bor 4 .bool v0))), (1, (.c (.bor 4 .bool v1))), (5, (.c (.int .i64 v2)))], []⟩
theorem w_laws_eqBoolS_0 (j : Nat) (X : dens ps_laws_eqBoolS) : whole Try.prog w_laws_eqBoolS_Γ Try.f56 w_laws_eqBoolS_cut w_laws_eqBoolS_keep ps_laws_eqBoolS rs_laws_eqBoolS (j + 1) X =
    if ((↑(List.length X.fst) : Int) != (↑(List.length X.snd.fst) : Int)) = true then
      some ((), (false, ()))
    else
      w_laws_eqBoolS_4 j X (X.fst) (X.snd.fst) 0 := by kernel_rfl
theorem w_laws_eqBoolS_4_step (j : Nat) (X : dens ps_laws_eqBoolS) (v0 : List (Ty.den .bool)) (v1 : List (Ty.den .bool)) (v2 : Int) : w_laws_eqBoolS_4 (j + 1) X v0 v1 v2 =
    if decide (v2 < (↑v0.length : Int)) = true then
      if 0 ≤ v2 then
        if v2 < (↑v0.length : Int) then
          if 0 ≤ v2 then
            if v2 < (↑v1.length : Int) then
              if (!v0.getD v2.toNat Ty.bool.z == v1.getD v2.toNat Ty.bool.z) = true then
                some ((), (false, ()))
              else
                w_laws_eqBoolS_4 j X v0 v1 (IntKind.i64.wrap (v2 + 1))
            else
              none
          else
            none
        else
          none
      else
        none
    else
      some ((), (true, ())) := by kernel_rfl
end
noncomputable def F_laws_eqBoolS : (List Bool) × (List Bool) × Unit → Option ((Unit) × Bool × Unit) := (sigOf Try.prog (w_laws_eqBoolS_Γ) Try.f56 w_laws_eqBoolS_cut w_laws_eqBoolS_keep ps_laws_eqBoolS rs_laws_eqBoolS).F
theorem ok_laws_eqBoolS : FnOk Try.prog 56 ⟨ps_laws_eqBoolS, rs_laws_eqBoolS, F_laws_eqBoolS⟩ := sigOk (Γ := w_laws_eqBoolS_Γ) (cut := w_laws_eqBoolS_cut) (keep := w_laws_eqBoolS_keep) tab_nil Try.func56 (by kernel_rfl) rfl
noncomputable def H_laws_eqBoolS_4 (X : (List Bool) × (List Bool) × Unit) (v0 : List Bool) (v1 : List Bool) (v2 : Int) : Option ((Unit) × Bool × Unit) := lim fun j => w_laws_eqBoolS_4 j X v0 v1 v2
theorem H_laws_eqBoolS_4_eq (X : (List Bool) × (List Bool) × Unit) (v0 : List Bool) (v1 : List Bool) (v2 : Int) : H_laws_eqBoolS_4 X v0 v1 v2 =
    if decide (v2 < (↑v0.length : Int)) = true then
      if 0 ≤ v2 then
        if v2 < (↑v0.length : Int) then
          if 0 ≤ v2 then
            if v2 < (↑v1.length : Int) then
              if (!v0.getD v2.toNat false == v1.getD v2.toNat false) = true then
                some ((), (false, ()))
              else
                H_laws_eqBoolS_4 X v0 v1 (IntKind.i64.wrap (v2 + 1))
            else
              none
          else
            none
        else
          none
      else
        none
    else
      some ((), (true, ())) := by
  show lim (fun j => w_laws_eqBoolS_4 j X v0 v1 v2) = _
  rw [lim_succ (G := fun j => w_laws_eqBoolS_4 j X v0 v1 v2) (fun j r h => run_mono _ _ _ _ h)]
  simp only [w_laws_eqBoolS_4_step, lim_ite, lim_bind, lim_const]
  all_goals rfl
theorem F_laws_eqBoolS_eq (X : (List Bool) × (List Bool) × Unit) : F_laws_eqBoolS X =
    if ((↑(List.length X.fst) : Int) != (↑(List.length X.snd.fst) : Int)) = true then
      some ((), (false, ()))
    else
      H_laws_eqBoolS_4 X (X.fst) (X.snd.fst) 0 := by
  show lim (fun j => whole Try.prog (w_laws_eqBoolS_Γ) Try.f56 w_laws_eqBoolS_cut w_laws_eqBoolS_keep ps_laws_eqBoolS rs_laws_eqBoolS j X) = _
  rw [lim_succ (fun j r h => whole_mono j r h)]
  simp only [w_laws_eqBoolS_0, lim_ite, lim_bind, lim_const]
  all_goals rfl

/-! ### laws.markBoolS -/
abbrev ps_laws_markBoolS : List PK := [(.mu false (.sl 4 .bool)), (.val false (.int .i64))]
abbrev rs_laws_markBoolS : List RK := [(.own false (.int .i64))]
section
abbrev w_laws_markBoolS_keep : Nat → List Nat := kp [(2, [0, 1, 5])]
abbrev w_laws_markBoolS_cut : Nat → Bool := memC []
abbrev w_laws_markBoolS_Γ : Nat → Option Sig := tab []
noncomputable def w_laws_markBoolS_2 (j : Nat) (X : dens ps_laws_markBoolS) (v0 : Int) (v1 : Int) (v2 : List (Ty.den .bool)) : Option (outs ps_laws_markBoolS × rdens rs_laws_markBoolS) := run Try.prog w_laws_markBoolS_Γ (fin Try.prog Try.f57 ps_laws_markBoolS rs_laws_markBoolS X) w_laws_markBoolS_cut (resvP ps_laws_markBoolS X startN) w_laws_markBoolS_keep j (headTodo 2 (bodyOf Try.f57))
  ⟨sparse 21 0 [(0, (.c (.own 19200000))), (1, (.c (.int .i64 v0))), (5, (.c (.int .i64 v1)))], [(19200000, (.row true 0 4 .bool v2))]⟩
theorem w_laws_markBoolS_0 (j : Nat) (X : dens ps_laws_markBoolS) : whole Try.prog w_laws_markBoolS_Γ Try.f57 w_laws_markBoolS_cut w_laws_markBoolS_keep ps_laws_markBoolS rs_laws_markBoolS (j + 1) X =
    w_laws_markBoolS_2 j X (X.snd.fst) 0 (X.fst) := by kernel_rfl
theorem w_laws_markBoolS_2_step (j : Nat) (X : dens ps_laws_markBoolS) (v0 : Int) (v1 : Int) (v2 : List (Ty.den .bool)) : w_laws_markBoolS_2 (j + 1) X v0 v1 v2 =
    if decide (v1 < (↑v2.length : Int)) = true then
      if 0 ≤ v1 then
        if v1 < (↑v2.length : Int) then
          w_laws_markBoolS_2 j X (IntKind.i64.wrap (v0 + 1)) (IntKind.i64.wrap (v1 + 1)) (v2.set v1.toNat (v0.tmod 3 == 0))
        else
          none
      else
        none
    else
      some ((v2, ()), (v0, ())) := by kernel_rfl
end
noncomputable def F_laws_markBoolS : (List Bool) × Int × Unit → Option (((List Bool) × Unit) × Int × Unit) := (sigOf Try.prog (w_laws_markBoolS_Γ) Try.f57 w_laws_markBoolS_cut w_laws_markBoolS_keep ps_laws_markBoolS rs_laws_markBoolS).F
theorem ok_laws_markBoolS : FnOk Try.prog 57 ⟨ps_laws_markBoolS, rs_laws_markBoolS, F_laws_markBoolS⟩ := sigOk (Γ := w_laws_markBoolS_Γ) (cut := w_laws_markBoolS_cut) (keep := w_laws_markBoolS_keep) tab_nil Try.func57 (by kernel_rfl) rfl
noncomputable def H_laws_markBoolS_2 (X : (List Bool) × Int × Unit) (v0 : Int) (v1 : Int) (v2 : List Bool) : Option (((List Bool) × Unit) × Int × Unit) := lim fun j => w_laws_markBoolS_2 j X v0 v1 v2
theorem H_laws_markBoolS_2_eq (X : (List Bool) × Int × Unit) (v0 : Int) (v1 : Int) (v2 : List Bool) : H_laws_markBoolS_2 X v0 v1 v2 =
    if decide (v1 < (↑v2.length : Int)) = true then
      if 0 ≤ v1 then
        if v1 < (↑v2.length : Int) then
          H_laws_markBoolS_2 X (IntKind.i64.wrap (v0 + 1)) (IntKind.i64.wrap (v1 + 1)) (v2.set v1.toNat (v0.tmod 3 == 0))
        else
          none
      else
        none
    else
      some ((v2, ()), (v0, ())) := by
  show lim (fun j => w_laws_markBoolS_2 j X v0 v1 v2) = _
  rw [lim_succ (G := fun j => w_laws_markBoolS_2 j X v0 v1 v2) (fun j r h => run_mono _ _ _ _ h)]
  simp only [w_laws_markBoolS_2_step, lim_ite, lim_bind, lim_const]
  all_goals rfl
theorem F_laws_markBoolS_eq (X : (List Bool) × Int × Unit) : F_laws_markBoolS X =
    H_laws_markBoolS_2 X (X.snd.fst) 0 (X.fst) := by
  show lim (fun j => whole Try.prog (w_laws_markBoolS_Γ) Try.f57 w_laws_markBoolS_cut w_laws_markBoolS_keep ps_laws_markBoolS rs_laws_markBoolS j X) = _
  rw [lim_succ (fun j r h => whole_mono j r h)]
  simp only [w_laws_markBoolS_0, lim_ite, lim_bind, lim_const]
  all_goals rfl

/-! ### laws.FnExactSeeLevels -/
abbrev ps_laws_FnExactSeeLevels : List PK := [(.val true (.pair .bool (.pair .bool (.int .i64)))), (.val false (.sl 4 .bool))]
abbrev rs_laws_FnExactSeeLevels : List RK := [(.own false .bool)]
section
variable (F_laws_toConnector : dens ps_laws_toConnector → Option (outs ps_laws_toConnector × rdens rs_laws_toConnector))
variable (F_impl_SeeLevels : dens ps_impl_SeeLevels → Option (outs ps_impl_SeeLevels × rdens rs_impl_SeeLevels))
variable (F_laws_eqConnector : dens ps_laws_eqConnector → Option (outs ps_laws_eqConnector × rdens rs_laws_eqConnector))
variable (F_laws_eqIntS : dens ps_laws_eqIntS → Option (outs ps_laws_eqIntS × rdens rs_laws_eqIntS))
variable (F_laws_markIntS : dens ps_laws_markIntS → Option (outs ps_laws_markIntS × rdens rs_laws_markIntS))
variable (F_laws_heldIntS : dens ps_laws_heldIntS → Option (outs ps_laws_heldIntS × rdens rs_laws_heldIntS))
variable (F_spec_SeeLevels : dens ps_spec_SeeLevels → Option (outs ps_spec_SeeLevels × rdens rs_spec_SeeLevels))
variable (F_laws_toBoolS : dens ps_laws_toBoolS → Option (outs ps_laws_toBoolS × rdens rs_laws_toBoolS))
variable (F_laws_eqBoolS : dens ps_laws_eqBoolS → Option (outs ps_laws_eqBoolS × rdens rs_laws_eqBoolS))
variable (F_laws_markBoolS : dens ps_laws_markBoolS → Option (outs ps_laws_markBoolS × rdens rs_laws_markBoolS))
abbrev w_laws_FnExactSeeLevels_keep : Nat → List Nat := kp []
abbrev w_laws_FnExactSeeLevels_cut : Nat → Bool := memC []
abbrev w_laws_FnExactSeeLevels_Γ : Nat → Option Sig := tab [(16, ⟨ps_laws_toConnector, rs_laws_toConnector, F_laws_toConnector⟩), (20, ⟨ps_impl_SeeLevels, rs_impl_SeeLevels, F_impl_SeeLevels⟩), (28, ⟨ps_laws_eqConnector, rs_laws_eqConnector, F_laws_eqConnector⟩), (32, ⟨ps_laws_eqIntS, rs_laws_eqIntS, F_laws_eqIntS⟩), (33, ⟨ps_laws_markIntS, rs_laws_markIntS, F_laws_markIntS⟩), (34, ⟨ps_laws_heldIntS, rs_laws_heldIntS, F_laws_heldIntS⟩), (54, ⟨ps_spec_SeeLevels, rs_spec_SeeLevels, F_spec_SeeLevels⟩), (55, ⟨ps_laws_toBoolS, rs_laws_toBoolS, F_laws_toBoolS⟩), (56, ⟨ps_laws_eqBoolS, rs_laws_eqBoolS, F_laws_eqBoolS⟩), (57, ⟨ps_laws_markBoolS, rs_laws_markBoolS, F_laws_markBoolS⟩)]
theorem w_laws_FnExactSeeLevels_0 (j : Nat) (X : dens ps_laws_FnExactSeeLevels) : whole Try.prog (w_laws_FnExactSeeLevels_Γ F_laws_toConnector F_impl_SeeLevels F_laws_eqConnector F_laws_eqIntS F_laws_markIntS F_laws_heldIntS F_spec_SeeLevels F_laws_toBoolS F_laws_eqBoolS F_laws_markBoolS) Try.f12 w_laws_FnExactSeeLevels_cut w_laws_FnExactSeeLevels_keep ps_laws_FnExactSeeLevels rs_laws_FnExactSeeLevels (j + 1) X =
    if decide ((↑(List.length X.snd.fst) : Int) > 1048576) = true then
      some ((), (true, ()))
    else
      (F_laws_toConnector (((X.fst.fst), ((X.fst.snd.fst), (X.fst.snd.snd))), ())).bind fun r0 =>
        (F_laws_toBoolS ((X.snd.fst), ())).bind fun r1 =>
          (F_spec_SeeLevels (((r0.snd.fst.fst), ((r0.snd.fst.snd.fst), (r0.snd.fst.snd.snd))), ((r1.snd.fst), ()))).bind fun r2 =>
            (F_laws_toBoolS ((X.snd.fst), ())).bind fun r3 =>
              (F_laws_toConnector (((X.fst.fst), ((X.fst.snd.fst), (X.fst.snd.snd))), ())).bind fun r4 =>
                (F_impl_SeeLevels (((r4.snd.fst.fst), ((r4.snd.fst.snd.fst), (r4.snd.fst.snd.snd))), ((r3.snd.fst), ()))).bind fun r5 =>
                  (F_laws_eqConnector (((r5.snd.fst.fst), ((r5.snd.fst.snd.fst), (r5.snd.fst.snd.snd))), (((r2.snd.fst.fst), ((r2.snd.fst.snd.fst), (r2.snd.fst.snd.snd))), ()))).bind fun r6 =>
                    if (!r6.snd.fst) = true then
                      some ((), (false, ()))
                    else
                      (F_laws_eqIntS ((r5.snd.snd.fst), ((r2.snd.snd.fst), ()))).bind fun r7 =>
                        if (!r7.snd.fst) = true then
                          some ((), (false, ()))
                        else
                          (F_laws_toBoolS ((X.snd.fst), ())).bind fun r8 =>
                            (F_laws_eqBoolS ((r3.snd.fst), ((r8.snd.fst), ()))).bind fun r9 =>
                              if (!r9.snd.fst) = true then
                                some ((), (false, ()))
                              else
                                (F_laws_markBoolS ((r3.snd.fst), (1, ()))).bind fun r10 =>
                                  if decide (r10.snd.fst < 0) = true then
                                    some ((), (false, ()))
                                  else
                                    (F_laws_eqConnector (((r5.snd.fst.fst), ((r5.snd.fst.snd.fst), (r5.snd.fst.snd.snd))), (((r2.snd.fst.fst), ((r2.snd.fst.snd.fst), (r2.snd.fst.snd.snd))), ()))).bind fun r11 =>
                                      if (!r11.snd.fst) = true then
                                        some ((), (false, ()))
                                      else
                                        (F_laws_eqIntS ((r5.snd.snd.fst), ((r2.snd.snd.fst), ()))).bind fun r12 =>
                                          if (!r12.snd.fst) = true then
                                            some ((), (false, ()))
                                          else
                                            (F_laws_markIntS ((r5.snd.snd.fst), (1, ()))).bind fun r13 =>
                                              (F_laws_heldIntS ((r13.fst.fst), (1, ()))).bind fun r14 =>
                                                if decide (r14.snd.fst < 0) = true then
                                                  some ((), (false, ()))
                                                else
                                                  if (r14.snd.fst != r13.snd.fst) = true then
                                                    some ((), (false, ()))
                                                  else
                                                    (F_laws_toConnector (((X.fst.fst), ((X.fst.snd.fst), (X.fst.snd.snd))), ())).bind fun r15 =>
                                                      (F_laws_toBoolS ((X.snd.fst), ())).bind fun r16 =>
                                                        (F_impl_SeeLevels (((r15.snd.fst.fst), ((r15.snd.fst.snd.fst), (r15.snd.fst.snd.snd))), ((r16.snd.fst), ()))).bind fun r17 =>
                                                          (F_laws_eqConnector (((r17.snd.fst.fst), ((r17.snd.fst.snd.fst), (r17.snd.fst.snd.snd))), (((r2.snd.fst.fst), ((r2.snd.fst.snd.fst), (r2.snd.fst.snd.snd))), ()))).bind fun r18 =>
                                                            if (!r18.snd.fst) = true then
                                                              some ((), (false, ()))
                                                            else
                                                              (F_laws_eqIntS ((r17.snd.snd.fst), ((r2.snd.snd.fst), ()))).bind fun r19 =>
                                                                if (!r19.snd.fst) = true then
                                                                  some ((), (false, ()))
                                                                else
                                                                  (F_laws_heldIntS ((r13.fst.fst), (1, ()))).bind fun r20 =>
                                                                    if decide (r20.snd.fst < 0) = true then
                                                                      some ((), (false, ()))
                                                                    else
                                                                      if (r20.snd.fst != r13.snd.fst) = true then
                                                                        some ((), (false, ()))
                                                                      else
                                                                        some ((), (true, ())) := by kernel_rfl
end
noncomputable def F_laws_FnExactSeeLevels : (Bool × Bool × Int) × (List Bool) × Unit → Option ((Unit) × Bool × Unit) := (sigOf Try.prog (w_laws_FnExactSeeLevels_Γ F_laws_toConnector F_impl_SeeLevels F_laws_eqConnector F_laws_eqIntS F_laws_markIntS F_laws_heldIntS F_spec_SeeLevels F_laws_toBoolS F_laws_eqBoolS F_laws_markBoolS) Try.f12 w_laws_FnExactSeeLevels_cut w_laws_FnExactSeeLevels_keep ps_laws_FnExactSeeLevels rs_laws_FnExactSeeLevels).F
theorem ok_laws_FnExactSeeLevels : FnOk Try.prog 12 ⟨ps_laws_FnExactSeeLevels, rs_laws_FnExactSeeLevels, F_laws_FnExactSeeLevels⟩ := sigOk (Γ := w_laws_FnExactSeeLevels_Γ F_laws_toConnector F_impl_SeeLevels F_laws_eqConnector F_laws_eqIntS F_laws_markIntS F_laws_heldIntS F_spec_SeeLevels F_laws_toBoolS F_laws_eqBoolS F_laws_markBoolS) (cut := w_laws_FnExactSeeLevels_cut) (keep := w_laws_FnExactSeeLevels_keep) (tab_cons ok_laws_toConnector (tab_cons ok_impl_SeeLevels (tab_cons ok_laws_eqConnector (tab_cons ok_laws_eqIntS (tab_cons ok_laws_markIntS (tab_cons ok_laws_heldIntS (tab_cons ok_spec_SeeLevels (tab_cons ok_laws_toBoolS (tab_cons ok_laws_eqBoolS (tab_cons ok_laws_markBoolS tab_nil)))))))))) Try.func12 (by kernel_rfl) rfl
theorem F_laws_FnExactSeeLevels_eq (X : (Bool × Bool × Int) × (List Bool) × Unit) : F_laws_FnExactSeeLevels X =
    if decide ((↑(List.length X.snd.fst) : Int) > 1048576) = true then
      some ((), (true, ()))
    else
      (F_laws_toConnector (((X.fst.fst), ((X.fst.snd.fst), (X.fst.snd.snd))), ())).bind fun r0 =>
        (F_laws_toBoolS ((X.snd.fst), ())).bind fun r1 =>
          (F_spec_SeeLevels (((r0.snd.fst.fst), ((r0.snd.fst.snd.fst), (r0.snd.fst.snd.snd))), ((r1.snd.fst), ()))).bind fun r2 =>
            (F_laws_toBoolS ((X.snd.fst), ())).bind fun r3 =>
              (F_laws_toConnector (((X.fst.fst), ((X.fst.snd.fst), (X.fst.snd.snd))), ())).bind fun r4 =>
                (F_impl_SeeLevels (((r4.snd.fst.fst), ((r4.snd.fst.snd.fst), (r4.snd.fst.snd.snd))), ((r3.snd.fst), ()))).bind fun r5 =>
                  (F_laws_eqConnector (((r5.snd.fst.fst), ((r5.snd.fst.snd.fst), (r5.snd.fst.snd.snd))), (((r2.snd.fst.fst), ((r2.snd.fst.snd.fst), (r2.snd.fst.snd.snd))), ()))).bind fun r6 =>
                    if (!r6.snd.fst) = true then
                      some ((), (false, ()))
                    else
                      (F_laws_eqIntS ((r5.snd.snd.fst), ((r2.snd.snd.fst), ()))).bind fun r7 =>
                        if (!r7.snd.fst) = true then
                          some ((), (false, ()))
                        else
                          (F_laws_toBoolS ((X.snd.fst), ())).bind fun r8 =>
                            (F_laws_eqBoolS ((r3.snd.fst), ((r8.snd.fst), ()))).bind fun r9 =>
                              if (!r9.snd.fst) = true then
                                some ((), (false, ()))
                              else
                                (F_laws_markBoolS ((r3.snd.fst), (1, ()))).bind fun r10 =>
                                  if decide (r10.snd.fst < 0) = true then
                                    some ((), (false, ()))
                                  else
                                    (F_laws_eqConnector (((r5.snd.fst.fst), ((r5.snd.fst.snd.fst), (r5.snd.fst.snd.snd))), (((r2.snd.fst.fst), ((r2.snd.fst.snd.fst), (r2.snd.fst.snd.snd))), ()))).bind fun r11 =>
                                      if (!r11.snd.fst) = true then
                                        some ((), (false, ()))
                                      else
                                        (F_laws_eqIntS ((r5.snd.snd.fst), ((r2.snd.snd.fst), ()))).bind fun r12 =>
                                          if (!r12.snd.fst) = true then
                                            some ((), (false, ()))
                                          else
                                            (F_laws_markIntS ((r5.snd.snd.fst), (1, ()))).bind fun r13 =>
                                              (F_laws_heldIntS ((r13.fst.fst), (1, ()))).bind fun r14 =>
                                                if decide (r14.snd.fst < 0) = true then
                                                  some ((), (false, ()))
                                                else
                                                  if (r14.snd.fst != r13.snd.fst) = true then
                                                    some ((), (false, ()))
                                                  else
                                                    (F_laws_toConnector (((X.fst.fst), ((X.fst.snd.fst), (X.fst.snd.snd))), ())).bind fun r15 =>
                                                      (F_laws_toBoolS ((X.snd.fst), ())).bind fun r16 =>
                                                        (F_impl_SeeLevels (((r15.snd.fst.fst), ((r15.snd.fst.snd.fst), (r15.snd.fst.snd.snd))), ((r16.snd.fst), ()))).bind fun r17 =>
                                                          (F_laws_eqConnector (((r17.snd.fst.fst), ((r17.snd.fst.snd.fst), (r17.snd.fst.snd.snd))), (((r2.snd.fst.fst), ((r2.snd.fst.snd.fst), (r2.snd.fst.snd.snd))), ()))).bind fun r18 =>
                                                            if (!r18.snd.fst) = true then
                                                              some ((), (false, ()))
                                                            else
                                                              (F_laws_eqIntS ((r17.snd.snd.fst), ((r2.snd.snd.fst), ()))).bind fun r19 =>
                                                                if (!r19.snd.fst) = true then
                                                                  some ((), (false, ()))
                                                                else
                                                                  (F_laws_heldIntS ((r13.fst.fst), (1, ()))).bind fun r20 =>
                                                                    if decide (r20.snd.fst < 0) = true then
                                                                      some ((), (false, ()))
                                                                    else
                                                                      if (r20.snd.fst != r13.snd.fst) = true then
                                                                        some ((), (false, ()))
                                                                      else
                                                                        some ((), (true, ())) := by
  show lim (fun j => whole Try.prog (w_laws_FnExactSeeLevels_Γ F_laws_toConnector F_impl_SeeLevels F_laws_eqConnector F_laws_eqIntS F_laws_markIntS F_laws_heldIntS F_spec_SeeLevels F_laws_toBoolS F_laws_eqBoolS F_laws_markBoolS) Try.f12 w_laws_FnExactSeeLevels_cut w_laws_FnExactSeeLevels_keep ps_laws_FnExactSeeLevels rs_laws_FnExactSeeLevels j X) = _
  rw [lim_succ (fun j r h => whole_mono j r h)]
  simp only [w_laws_FnExactSeeLevels_0, lim_ite, lim_bind, lim_const]
  all_goals rfl
end Go.Proofs.Ytceffcfnjjlbkaa.E
