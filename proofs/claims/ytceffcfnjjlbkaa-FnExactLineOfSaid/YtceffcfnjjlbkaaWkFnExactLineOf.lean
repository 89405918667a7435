/- The walks of laws.FnExactLineOf. -/
import Derived.Test.YtceffcfnjjlbkaaE30
import Derived.Test.YtceffcfnjjlbkaaProg
namespace Go.Proofs.Ytceffcfnjjlbkaa.E
open Go.RowKit
set_option linter.unusedVariables false
set_option linter.unusedSimpArgs false
set_option maxRecDepth 100000
/-! ### spec.l01In -/
abbrev ps_spec_l01In : List PK := [(.val false (.int .i64)), (.val false (.int .i64)), (.val false (.int .i64))]
abbrev rs_spec_l01In : List RK := [(.own false .bool)]
section
abbrev w_spec_l01In_keep : Nat → List Nat := kp []
abbrev w_spec_l01In_cut : Nat → Bool := memC []
abbrev w_spec_l01In_Γ : Nat → Option Sig := tab []
theorem w_spec_l01In_0 (j : Nat) (X : dens ps_spec_l01In) : whole Try.prog w_spec_l01In_Γ Try.f63 w_spec_l01In_cut w_spec_l01In_keep ps_spec_l01In rs_spec_l01In (j + 1) X =
    if decide (X.fst ≥ X.snd.fst) = true then
      some ((), ((decide (X.fst ≤ X.snd.snd.fst)), ()))
    else
      some ((), (false, ())) := by kernel_rfl
end
noncomputable def F_spec_l01In : Int × Int × Int × Unit → Option ((Unit) × Bool × Unit) := (sigOf Try.prog (w_spec_l01In_Γ) Try.f63 w_spec_l01In_cut w_spec_l01In_keep ps_spec_l01In rs_spec_l01In).F
theorem ok_spec_l01In : FnOk Try.prog 63 ⟨ps_spec_l01In, rs_spec_l01In, F_spec_l01In⟩ := sigOk (Γ := w_spec_l01In_Γ) (cut := w_spec_l01In_cut) (keep := w_spec_l01In_keep) tab_nil Try.func63 (by kernel_rfl) rfl
theorem F_spec_l01In_eq (X : Int × Int × Int × Unit) : F_spec_l01In X =
    if decide (X.fst ≥ X.snd.fst) = true then
      some ((), ((decide (X.fst ≤ X.snd.snd.fst)), ()))
    else
      some ((), (false, ())) := by
  show lim (fun j => whole Try.prog (w_spec_l01In_Γ) Try.f63 w_spec_l01In_cut w_spec_l01In_keep ps_spec_l01In rs_spec_l01In j X) = _
  rw [lim_succ (fun j r h => whole_mono j r h)]
  simp only [w_spec_l01In_0, lim_ite, lim_bind, lim_const]
  all_goals rfl

/-! ### spec.PictureOk -/
abbrev ps_spec_PictureOk : List PK := [(.val false (.sl 3 (.int .i64))), (.val false (.int .i64)), (.val false (.int .i64))]
abbrev rs_spec_PictureOk : List RK := [(.own false .bool)]
section
variable (F_spec_l01In : dens ps_spec_l01In → Option (outs ps_spec_l01In × rdens rs_spec_l01In))
abbrev w_spec_PictureOk_keep : Nat → List Nat := kp [(4, [0, 7])]
abbrev w_spec_PictureOk_cut : Nat → Bool := memC []
abbrev w_spec_PictureOk_Γ : Nat → Option Sig := tab [(63, ⟨ps_spec_l01In, rs_spec_l01In, F_spec_l01In⟩)]
noncomputable def w_spec_PictureOk_4 (j : Nat) (X : dens ps_spec_PictureOk) (v0 : List (Ty.den (.int .i64))) (v1 : Int) : Option (outs ps_spec_PictureOk × rdens rs_spec_PictureOk) := run Try.prog (w_spec_PictureOk_Γ F_spec_l01In) (fin Try.prog Try.f67 ps_spec_PictureOk rs_spec_PictureOk X) w_spec_PictureOk_cut (resvP ps_spec_PictureOk X startN) w_spec_PictureOk_keep j (headTodo 4 (bodyOf Try.f67))
  ⟨sparse 36 0 [(0, (.c (.bor 3 (.int .i64) v0))), (7, (.c (.int .i64 v1)))], []⟩
theorem w_spec_PictureOk_0 (j : Nat) (X : dens ps_spec_PictureOk) : whole Try.prog (w_spec_PictureOk_Γ F_spec_l01In) Try.f67 w_spec_PictureOk_cut w_spec_PictureOk_keep ps_spec_PictureOk rs_spec_PictureOk (j + 1) X =
    (F_spec_l01In ((X.snd.fst), (1, (16, ())))).bind fun r0 =>
      if (!r0.snd.fst) = true then
        some ((), (false, ()))
      else
        (F_spec_l01In ((X.snd.snd.fst), (1, (16, ())))).bind fun r1 =>
          if (!r1.snd.fst) = true then
            some ((), (false, ()))
          else
            if ((↑(List.length X.fst) : Int) != IntKind.i64.wrap (X.snd.fst * X.snd.snd.fst)) = true then
              some ((), (false, ()))
            else
              w_spec_PictureOk_4 F_spec_l01In j X (X.fst) 0 := by kernel_rfl
theorem w_spec_PictureOk_4_step (j : Nat) (X : dens ps_spec_PictureOk) (v0 : List (Ty.den (.int .i64))) (v1 : Int) : w_spec_PictureOk_4 F_spec_l01In (j + 1) X v0 v1 =
    if decide (v1 < (↑v0.length : Int)) = true then
      if 0 ≤ v1 then
        if v1 < (↑v0.length : Int) then
          (F_spec_l01In ((v0.getD v1.toNat (Ty.int IntKind.i64).z), (0, (262143, ())))).bind fun r0 =>
            if (!r0.snd.fst) = true then
              some ((), (false, ()))
            else
              w_spec_PictureOk_4 F_spec_l01In j X v0 (IntKind.i64.wrap (v1 + 1))
        else
          none
      else
        none
    else
      some ((), (true, ())) := by kernel_rfl
end
noncomputable def F_spec_PictureOk : (List Int) × Int × Int × Unit → Option ((Unit) × Bool × Unit) := (sigOf Try.prog (w_spec_PictureOk_Γ F_spec_l01In) Try.f67 w_spec_PictureOk_cut w_spec_PictureOk_keep ps_spec_PictureOk rs_spec_PictureOk).F
theorem ok_spec_PictureOk : FnOk Try.prog 67 ⟨ps_spec_PictureOk, rs_spec_PictureOk, F_spec_PictureOk⟩ := sigOk (Γ := w_spec_PictureOk_Γ F_spec_l01In) (cut := w_spec_PictureOk_cut) (keep := w_spec_PictureOk_keep) (tab_cons ok_spec_l01In tab_nil) Try.func67 (by kernel_rfl) rfl
noncomputable def H_spec_PictureOk_4 (X : (List Int) × Int × Int × Unit) (v0 : List Int) (v1 : Int) : Option ((Unit) × Bool × Unit) := lim fun j => w_spec_PictureOk_4 F_spec_l01In j X v0 v1
theorem H_spec_PictureOk_4_eq (X : (List Int) × Int × Int × Unit) (v0 : List Int) (v1 : Int) : H_spec_PictureOk_4 X v0 v1 =
    if decide (v1 < (↑v0.length : Int)) = true then
      if 0 ≤ v1 then
        if v1 < (↑v0.length : Int) then
          (F_spec_l01In ((v0.getD v1.toNat (0 : Int)), (0, (262143, ())))).bind fun r0 =>
            if (!r0.snd.fst) = true then
              some ((), (false, ()))
            else
              H_spec_PictureOk_4 X v0 (IntKind.i64.wrap (v1 + 1))
        else
          none
      else
        none
    else
      some ((), (true, ())) := by
  show lim (fun j => w_spec_PictureOk_4 F_spec_l01In j X v0 v1) = _
  rw [lim_succ (G := fun j => w_spec_PictureOk_4 F_spec_l01In j X v0 v1) (fun j r h => run_mono _ _ _ _ h)]
  simp only [w_spec_PictureOk_4_step, lim_ite, lim_bind, lim_const]
  all_goals rfl
theorem F_spec_PictureOk_eq (X : (List Int) × Int × Int × Unit) : F_spec_PictureOk X =
    (F_spec_l01In ((X.snd.fst), (1, (16, ())))).bind fun r0 =>
      if (!r0.snd.fst) = true then
        some ((), (false, ()))
      else
        (F_spec_l01In ((X.snd.snd.fst), (1, (16, ())))).bind fun r1 =>
          if (!r1.snd.fst) = true then
            some ((), (false, ()))
          else
            if ((↑(List.length X.fst) : Int) != IntKind.i64.wrap (X.snd.fst * X.snd.snd.fst)) = true then
              some ((), (false, ()))
            else
              H_spec_PictureOk_4 X (X.fst) 0 := by
  show lim (fun j => whole Try.prog (w_spec_PictureOk_Γ F_spec_l01In) Try.f67 w_spec_PictureOk_cut w_spec_PictureOk_keep ps_spec_PictureOk rs_spec_PictureOk j X) = _
  rw [lim_succ (fun j r h => whole_mono j r h)]
  simp only [w_spec_PictureOk_0, lim_ite, lim_bind, lim_const]
  all_goals rfl

/-! ### spec.LineOf -/
abbrev ps_spec_LineOf : List PK := [(.val false (.sl 3 (.int .i64))), (.val false (.int .i64)), (.val false (.int .i64)), (.val false (.int .i64))]
abbrev rs_spec_LineOf : List RK := [(.own false (.sl 3 (.int .i64)))]
section
variable (F_spec_l01In : dens ps_spec_l01In → Option (outs ps_spec_l01In × rdens rs_spec_l01In))
variable (F_spec_PictureOk : dens ps_spec_PictureOk → Option (outs ps_spec_PictureOk × rdens rs_spec_PictureOk))
abbrev w_spec_LineOf_keep : Nat → List Nat := kp []
abbrev w_spec_LineOf_cut : Nat → Bool := memC []
abbrev w_spec_LineOf_Γ : Nat → Option Sig := tab [(63, ⟨ps_spec_l01In, rs_spec_l01In, F_spec_l01In⟩), (67, ⟨ps_spec_PictureOk, rs_spec_PictureOk, F_spec_PictureOk⟩)]
theorem w_spec_LineOf_0 (j : Nat) (X : dens ps_spec_LineOf) : whole Try.prog (w_spec_LineOf_Γ F_spec_l01In F_spec_PictureOk) Try.f29 w_spec_LineOf_cut w_spec_LineOf_keep ps_spec_LineOf rs_spec_LineOf (j + 1) X =
    (F_spec_PictureOk ((X.fst), ((X.snd.fst), ((X.snd.snd.fst), ())))).bind fun r0 =>
      if (!r0.snd.fst) = true then
        some ((), ([], ()))
      else
        (F_spec_l01In ((X.snd.snd.snd.fst), (0, ((IntKind.i64.wrap (X.snd.snd.fst - 1)), ())))).bind fun r1 =>
          if (!r1.snd.fst) = true then
            some ((), ([], ()))
          else
            if 0 ≤ IntKind.i64.wrap (X.snd.snd.snd.fst * X.snd.fst) then
              if IntKind.i64.wrap (X.snd.snd.snd.fst * X.snd.fst) ≤ IntKind.i64.wrap (IntKind.i64.wrap (X.snd.snd.snd.fst * X.snd.fst) + X.snd.fst) then
                if IntKind.i64.wrap (IntKind.i64.wrap (X.snd.snd.snd.fst * X.snd.fst) + X.snd.fst) ≤ (↑(List.length X.fst) : Int) then
                  if (0 + (List.take ((some (IntKind.i64.wrap (IntKind.i64.wrap (X.snd.snd.snd.fst * X.snd.fst) + X.snd.fst))).getD (↑(List.length X.fst) : Int) - (some (IntKind.i64.wrap (X.snd.snd.snd.fst * X.snd.fst))).getD 0).toNat (List.drop ((some (IntKind.i64.wrap (X.snd.snd.snd.fst * X.snd.fst))).getD 0).toNat X.fst)).length) * 8 ≤ 140737488355328 then
                    some ((), (([] ++ List.take ((some (IntKind.i64.wrap (IntKind.i64.wrap (X.snd.snd.snd.fst * X.snd.fst) + X.snd.fst))).getD (↑(List.length X.fst) : Int) - (some (IntKind.i64.wrap (X.snd.snd.snd.fst * X.snd.fst))).getD 0).toNat (List.drop ((some (IntKind.i64.wrap (X.snd.snd.snd.fst * X.snd.fst))).getD 0).toNat X.fst)), ()))
                  else
                    none
                else
                  none
              else
                none
            else
              none := by kernel_rfl
end
noncomputable def F_spec_LineOf : (List Int) × Int × Int × Int × Unit → Option ((Unit) × (List Int) × Unit) := (sigOf Try.prog (w_spec_LineOf_Γ F_spec_l01In F_spec_PictureOk) Try.f29 w_spec_LineOf_cut w_spec_LineOf_keep ps_spec_LineOf rs_spec_LineOf).F
theorem ok_spec_LineOf : FnOk Try.prog 29 ⟨ps_spec_LineOf, rs_spec_LineOf, F_spec_LineOf⟩ := sigOk (Γ := w_spec_LineOf_Γ F_spec_l01In F_spec_PictureOk) (cut := w_spec_LineOf_cut) (keep := w_spec_LineOf_keep) (tab_cons ok_spec_l01In (tab_cons ok_spec_PictureOk tab_nil)) Try.func29 (by kernel_rfl) rfl
theorem F_spec_LineOf_eq (X : (List Int) × Int × Int × Int × Unit) : F_spec_LineOf X =
    (F_spec_PictureOk ((X.fst), ((X.snd.fst), ((X.snd.snd.fst), ())))).bind fun r0 =>
      if (!r0.snd.fst) = true then
        some ((), ([], ()))
      else
        (F_spec_l01In ((X.snd.snd.snd.fst), (0, ((IntKind.i64.wrap (X.snd.snd.fst - 1)), ())))).bind fun r1 =>
          if (!r1.snd.fst) = true then
            some ((), ([], ()))
          else
            if 0 ≤ IntKind.i64.wrap (X.snd.snd.snd.fst * X.snd.fst) then
              if IntKind.i64.wrap (X.snd.snd.snd.fst * X.snd.fst) ≤ IntKind.i64.wrap (IntKind.i64.wrap (X.snd.snd.snd.fst * X.snd.fst) + X.snd.fst) then
                if IntKind.i64.wrap (IntKind.i64.wrap (X.snd.snd.snd.fst * X.snd.fst) + X.snd.fst) ≤ (↑(List.length X.fst) : Int) then
                  if (0 + (List.take ((some (IntKind.i64.wrap (IntKind.i64.wrap (X.snd.snd.snd.fst * X.snd.fst) + X.snd.fst))).getD (↑(List.length X.fst) : Int) - (some (IntKind.i64.wrap (X.snd.snd.snd.fst * X.snd.fst))).getD 0).toNat (List.drop ((some (IntKind.i64.wrap (X.snd.snd.snd.fst * X.snd.fst))).getD 0).toNat X.fst)).length) * 8 ≤ 140737488355328 then
                    some ((), (([] ++ List.take ((some (IntKind.i64.wrap (IntKind.i64.wrap (X.snd.snd.snd.fst * X.snd.fst) + X.snd.fst))).getD (↑(List.length X.fst) : Int) - (some (IntKind.i64.wrap (X.snd.snd.snd.fst * X.snd.fst))).getD 0).toNat (List.drop ((some (IntKind.i64.wrap (X.snd.snd.snd.fst * X.snd.fst))).getD 0).toNat X.fst)), ()))
                  else
                    none
                else
                  none
              else
                none
            else
              none := by
  show lim (fun j => whole Try.prog (w_spec_LineOf_Γ F_spec_l01In F_spec_PictureOk) Try.f29 w_spec_LineOf_cut w_spec_LineOf_keep ps_spec_LineOf rs_spec_LineOf j X) = _
  rw [lim_succ (fun j r h => whole_mono j r h)]
  simp only [w_spec_LineOf_0, lim_ite, lim_bind, lim_const]
  all_goals rfl

/-! ### laws.toIntS -/
abbrev ps_laws_toIntS : List PK := [(.val false (.sl 3 (.int .i64)))]
abbrev rs_laws_toIntS : List RK := [(.own false (.sl 3 (.int .i64)))]
section
abbrev w_laws_toIntS_keep : Nat → List Nat := kp [(3, [0, 3, 4])]
abbrev w_laws_toIntS_cut : Nat → Bool := memC []
abbrev w_laws_toIntS_Γ : Nat → Option Sig := tab []
noncomputable def w_laws_toIntS_3 (j : Nat) (X : dens ps_laws_toIntS) (v0 : List (Ty.den (.int .i64))) (v1 : Int) (v2 : List (Ty.den (.int .i64))) : Option (outs ps_laws_toIntS × rdens rs_laws_toIntS) := run Try.prog w_laws_toIntS_Γ (fin Try.prog Try.f30 ps_laws_toIntS rs_laws_toIntS X) w_laws_toIntS_cut (resvP ps_laws_toIntS X startN) w_laws_toIntS_keep j (headTodo 3 (bodyOf Try.f30))
  ⟨sparse 22 0 [(0, (.c (.bor 3 (.int .i64) v0))), (3, (.c (.own 19300000))), (4, (.c (.int .i64 v1)))], [(19300000, (.row true 0 3 (.int .i64) v2))]⟩
theorem w_laws_toIntS_0 (j : Nat) (X : dens ps_laws_toIntS) : whole Try.prog w_laws_toIntS_Γ Try.f30 w_laws_toIntS_cut w_laws_toIntS_keep ps_laws_toIntS rs_laws_toIntS (j + 1) X =
    if (↑(List.length X.fst) : Int).toNat * 8 ≤ 281474976710656 then
      w_laws_toIntS_3 j X (X.fst) 0 (List.replicate (↑(List.length X.fst) : Int).toNat 0)
    else
      none := by kernel_rfl
theorem w_laws_toIntS_3_step (j : Nat) (X : dens ps_laws_toIntS) (v0 : List (Ty.den (.int .i64))) (v1 : Int) (v2 : List (Ty.den (.int .i64))) : w_laws_toIntS_3 (j + 1) X v0 v1 v2 =
    if decide (v1 < (↑v0.length : Int)) = true then
      if 0 ≤ v1 then
        if v1 < (↑v0.length : Int) then
          if 0 ≤ v1 then
            if v1 < (↑v2.length : Int) then
              w_laws_toIntS_3 j X v0 (IntKind.i64.wrap (v1 + 1)) (v2.set v1.toNat (v0.getD v1.toNat (Ty.int IntKind.i64).z))
            else
              none
          else
            none
        else
          none
      else
        none
    else
      some ((), (v2, ())) := by kernel_rfl
end
noncomputable def F_laws_toIntS : (List Int) × Unit → Option ((Unit) × (List Int) × Unit) := (sigOf Try.prog (w_laws_toIntS_Γ) Try.f30 w_laws_toIntS_cut w_laws_toIntS_keep ps_laws_toIntS rs_laws_toIntS).F
theorem ok_laws_toIntS : FnOk Try.prog 30 ⟨ps_laws_toIntS, rs_laws_toIntS, F_laws_toIntS⟩ := sigOk (Γ := w_laws_toIntS_Γ) (cut := w_laws_toIntS_cut) (keep := w_laws_toIntS_keep) tab_nil Try.func30 (by kernel_rfl) rfl
noncomputable def H_laws_toIntS_3 (X : (List Int) × Unit) (v0 : List Int) (v1 : Int) (v2 : List Int) : Option ((Unit) × (List Int) × Unit) := lim fun j => w_laws_toIntS_3 j X v0 v1 v2
theorem H_laws_toIntS_3_eq (X : (List Int) × Unit) (v0 : List Int) (v1 : Int) (v2 : List Int) : H_laws_toIntS_3 X v0 v1 v2 =
    if decide (v1 < (↑v0.length : Int)) = true then
      if 0 ≤ v1 then
        if v1 < (↑v0.length : Int) then
          if 0 ≤ v1 then
            if v1 < (↑v2.length : Int) then
              H_laws_toIntS_3 X v0 (IntKind.i64.wrap (v1 + 1)) (v2.set v1.toNat (v0.getD v1.toNat (0 : Int)))
            else
              none
          else
            none
        else
          none
      else
        none
    else
      some ((), (v2, ())) := by
  show lim (fun j => w_laws_toIntS_3 j X v0 v1 v2) = _
  rw [lim_succ (G := fun j => w_laws_toIntS_3 j X v0 v1 v2) (fun j r h => run_mono _ _ _ _ h)]
  simp only [w_laws_toIntS_3_step, lim_ite, lim_bind, lim_const]
  all_goals rfl
theorem F_laws_toIntS_eq (X : (List Int) × Unit) : F_laws_toIntS X =
    if (↑(List.length X.fst) : Int).toNat * 8 ≤ 281474976710656 then
      H_laws_toIntS_3 X (X.fst) 0 (List.replicate (↑(List.length X.fst) : Int).toNat 0)
    else
      none := by
  show lim (fun j => whole Try.prog (w_laws_toIntS_Γ) Try.f30 w_laws_toIntS_cut w_laws_toIntS_keep ps_laws_toIntS rs_laws_toIntS j X) = _
  rw [lim_succ (fun j r h => whole_mono j r h)]
  simp only [w_laws_toIntS_0, lim_ite, lim_bind, lim_const]
  all_goals rfl

/-! ### impl.within -/
abbrev ps_impl_within : List PK := [(.val false (.int .i64)), (.val false (.int .i64)), (.val false (.int .i64))]
abbrev rs_impl_within : List RK := [(.own false .bool)]
section
abbrev w_impl_within_keep : Nat → List Nat := kp []
abbrev w_impl_within_cut : Nat → Bool := memC []
abbrev w_impl_within_Γ : Nat → Option Sig := tab []
theorem w_impl_within_0 (j : Nat) (X : dens ps_impl_within) : whole Try.prog w_impl_within_Γ Try.f64 w_impl_within_cut w_impl_within_keep ps_impl_within rs_impl_within (j + 1) X =
    if decide (X.snd.fst ≤ X.fst) = true then
      some ((), ((decide (X.fst ≤ X.snd.snd.fst)), ()))
    else
      some ((), (false, ())) := by kernel_rfl
end
noncomputable def F_impl_within : Int × Int × Int × Unit → Option ((Unit) × Bool × Unit) := (sigOf Try.prog (w_impl_within_Γ) Try.f64 w_impl_within_cut w_impl_within_keep ps_impl_within rs_impl_within).F
theorem ok_impl_within : FnOk Try.prog 64 ⟨ps_impl_within, rs_impl_within, F_impl_within⟩ := sigOk (Γ := w_impl_within_Γ) (cut := w_impl_within_cut) (keep := w_impl_within_keep) tab_nil Try.func64 (by kernel_rfl) rfl
theorem F_impl_within_eq (X : Int × Int × Int × Unit) : F_impl_within X =
    if decide (X.snd.fst ≤ X.fst) = true then
      some ((), ((decide (X.fst ≤ X.snd.snd.fst)), ()))
    else
      some ((), (false, ())) := by
  show lim (fun j => whole Try.prog (w_impl_within_Γ) Try.f64 w_impl_within_cut w_impl_within_keep ps_impl_within rs_impl_within j X) = _
  rw [lim_succ (fun j r h => whole_mono j r h)]
  simp only [w_impl_within_0, lim_ite, lim_bind, lim_const]
  all_goals rfl

/-! ### impl.isSide -/
abbrev ps_impl_isSide : List PK := [(.val false (.int .i64))]
abbrev rs_impl_isSide : List RK := [(.own false .bool)]
section
variable (F_impl_within : dens ps_impl_within → Option (outs ps_impl_within × rdens rs_impl_within))
abbrev w_impl_isSide_keep : Nat → List Nat := kp []
abbrev w_impl_isSide_cut : Nat → Bool := memC []
abbrev w_impl_isSide_Γ : Nat → Option Sig := tab [(64, ⟨ps_impl_within, rs_impl_within, F_impl_within⟩)]
theorem w_impl_isSide_0 (j : Nat) (X : dens ps_impl_isSide) : whole Try.prog (w_impl_isSide_Γ F_impl_within) Try.f93 w_impl_isSide_cut w_impl_isSide_keep ps_impl_isSide rs_impl_isSide (j + 1) X =
    (F_impl_within ((X.fst), (1, (16, ())))).bind fun r0 =>
      some ((), ((r0.snd.fst), ())) := by kernel_rfl
end
noncomputable def F_impl_isSide : Int × Unit → Option ((Unit) × Bool × Unit) := (sigOf Try.prog (w_impl_isSide_Γ F_impl_within) Try.f93 w_impl_isSide_cut w_impl_isSide_keep ps_impl_isSide rs_impl_isSide).F
theorem ok_impl_isSide : FnOk Try.prog 93 ⟨ps_impl_isSide, rs_impl_isSide, F_impl_isSide⟩ := sigOk (Γ := w_impl_isSide_Γ F_impl_within) (cut := w_impl_isSide_cut) (keep := w_impl_isSide_keep) (tab_cons ok_impl_within tab_nil) Try.func93 (by kernel_rfl) rfl
theorem F_impl_isSide_eq (X : Int × Unit) : F_impl_isSide X =
    (F_impl_within ((X.fst), (1, (16, ())))).bind fun r0 =>
      some ((), ((r0.snd.fst), ())) := by
  show lim (fun j => whole Try.prog (w_impl_isSide_Γ F_impl_within) Try.f93 w_impl_isSide_cut w_impl_isSide_keep ps_impl_isSide rs_impl_isSide j X) = _
  rw [lim_succ (fun j r h => whole_mono j r h)]
  simp only [w_impl_isSide_0, lim_ite, lim_bind, lim_const]
  all_goals rfl

/-! ### impl.isDot -/
abbrev ps_impl_isDot : List PK := [(.val false (.int .i64))]
abbrev rs_impl_isDot : List RK := [(.own false .bool)]
section
variable (F_impl_within : dens ps_impl_within → Option (outs ps_impl_within × rdens rs_impl_within))
abbrev w_impl_isDot_keep : Nat → List Nat := kp []
abbrev w_impl_isDot_cut : Nat → Bool := memC []
abbrev w_impl_isDot_Γ : Nat → Option Sig := tab [(64, ⟨ps_impl_within, rs_impl_within, F_impl_within⟩)]
theorem w_impl_isDot_0 (j : Nat) (X : dens ps_impl_isDot) : whole Try.prog (w_impl_isDot_Γ F_impl_within) Try.f102 w_impl_isDot_cut w_impl_isDot_keep ps_impl_isDot rs_impl_isDot (j + 1) X =
    (F_impl_within ((X.fst), (0, (262143, ())))).bind fun r0 =>
      some ((), ((r0.snd.fst), ())) := by kernel_rfl
end
noncomputable def F_impl_isDot : Int × Unit → Option ((Unit) × Bool × Unit) := (sigOf Try.prog (w_impl_isDot_Γ F_impl_within) Try.f102 w_impl_isDot_cut w_impl_isDot_keep ps_impl_isDot rs_impl_isDot).F
theorem ok_impl_isDot : FnOk Try.prog 102 ⟨ps_impl_isDot, rs_impl_isDot, F_impl_isDot⟩ := sigOk (Γ := w_impl_isDot_Γ F_impl_within) (cut := w_impl_isDot_cut) (keep := w_impl_isDot_keep) (tab_cons ok_impl_within tab_nil) Try.func102 (by kernel_rfl) rfl
theorem F_impl_isDot_eq (X : Int × Unit) : F_impl_isDot X =
    (F_impl_within ((X.fst), (0, (262143, ())))).bind fun r0 =>
      some ((), ((r0.snd.fst), ())) := by
  show lim (fun j => whole Try.prog (w_impl_isDot_Γ F_impl_within) Try.f102 w_impl_isDot_cut w_impl_isDot_keep ps_impl_isDot rs_impl_isDot j X) = _
  rw [lim_succ (fun j r h => whole_mono j r h)]
  simp only [w_impl_isDot_0, lim_ite, lim_bind, lim_const]
  all_goals rfl

/-! ### impl.areDots -/
abbrev ps_impl_areDots : List PK := [(.val false (.sl 3 (.int .i64)))]
abbrev rs_impl_areDots : List RK := [(.own false .bool)]
section
variable (F_impl_isDot : dens ps_impl_isDot → Option (outs ps_impl_isDot × rdens rs_impl_isDot))
abbrev w_impl_areDots_keep : Nat → List Nat := kp [(2, [5, 6, 7])]
abbrev w_impl_areDots_cut : Nat → Bool := memC []
abbrev w_impl_areDots_Γ : Nat → Option Sig := tab [(102, ⟨ps_impl_isDot, rs_impl_isDot, F_impl_isDot⟩)]
noncomputable def w_impl_areDots_2 (j : Nat) (X : dens ps_impl_areDots) (v0 : List (Ty.den (.int .i64))) (v1 : Int) (v2 : Int) : Option (outs ps_impl_areDots × rdens rs_impl_areDots) := run Try.prog (w_impl_areDots_Γ F_impl_isDot) (fin Try.prog Try.f94 ps_impl_areDots rs_impl_areDots X) w_impl_areDots_cut (resvP ps_impl_areDots X startN) w_impl_areDots_keep j (headTodo 2 (bodyOf Try.f94))
  ⟨sparse 15 0 [(5, (.c (.bor 3 (.int .i64) v0))), (6, (.c (.int .i64 v1))), (7, (.c (.int .i64 v2)))], []⟩
theorem w_impl_areDots_0 (j : Nat) (X : dens ps_impl_areDots) : whole Try.prog (w_impl_areDots_Γ F_impl_isDot) Try.f94 w_impl_areDots_cut w_impl_areDots_keep ps_impl_areDots rs_impl_areDots (j + 1) X =
    w_impl_areDots_2 F_impl_isDot j X (X.fst) ((↑(List.length X.fst) : Int)) 0 := by kernel_rfl
theorem w_impl_areDots_2_step (j : Nat) (X : dens ps_impl_areDots) (v0 : List (Ty.den (.int .i64))) (v1 : Int) (v2 : Int) : w_impl_areDots_2 F_impl_isDot (j + 1) X v0 v1 v2 =
    if decide (v2 < v1) = true then
      if 0 ≤ v2 then
        if v2 < (↑v0.length : Int) then
          (F_impl_isDot ((v0.getD v2.toNat (Ty.int IntKind.i64).z), ())).bind fun r0 =>
            if (!r0.snd.fst) = true then
              some ((), (false, ()))
            else
              w_impl_areDots_2 F_impl_isDot j X v0 v1 (IntKind.i64.wrap (v2 + 1))
        else
          none
      else
        none
    else
      some ((), (true, ())) := by kernel_rfl
end
noncomputable def F_impl_areDots : (List Int) × Unit → Option ((Unit) × Bool × Unit) := (sigOf Try.prog (w_impl_areDots_Γ F_impl_isDot) Try.f94 w_impl_areDots_cut w_impl_areDots_keep ps_impl_areDots rs_impl_areDots).F
theorem ok_impl_areDots : FnOk Try.prog 94 ⟨ps_impl_areDots, rs_impl_areDots, F_impl_areDots⟩ := sigOk (Γ := w_impl_areDots_Γ F_impl_isDot) (cut := w_impl_areDots_cut) (keep := w_impl_areDots_keep) (tab_cons ok_impl_isDot tab_nil) Try.func94 (by kernel_rfl) rfl
noncomputable def H_impl_areDots_2 (X : (List Int) × Unit) (v0 : List Int) (v1 : Int) (v2 : Int) : Option ((Unit) × Bool × Unit) := lim fun j => w_impl_areDots_2 F_impl_isDot j X v0 v1 v2
theorem H_impl_areDots_2_eq (X : (List Int) × Unit) (v0 : List Int) (v1 : Int) (v2 : Int) : H_impl_areDots_2 X v0 v1 v2 =
    if decide (v2 < v1) = true then
      if 0 ≤ v2 then
        if v2 < (↑v0.length : Int) then
          (F_impl_isDot ((v0.getD v2.toNat (0 : Int)), ())).bind fun r0 =>
            if (!r0.snd.fst) = true then
              some ((), (false, ()))
            else
              H_impl_areDots_2 X v0 v1 (IntKind.i64.wrap (v2 + 1))
        else
          none
      else
        none
    else
      some ((), (true, ())) := by
  show lim (fun j => w_impl_areDots_2 F_impl_isDot j X v0 v1 v2) = _
  rw [lim_succ (G := fun j => w_impl_areDots_2 F_impl_isDot j X v0 v1 v2) (fun j r h => run_mono _ _ _ _ h)]
  simp only [w_impl_areDots_2_step, lim_ite, lim_bind, lim_const]
  all_goals rfl
theorem F_impl_areDots_eq (X : (List Int) × Unit) : F_impl_areDots X =
    H_impl_areDots_2 X (X.fst) ((↑(List.length X.fst) : Int)) 0 := by
  show lim (fun j => whole Try.prog (w_impl_areDots_Γ F_impl_isDot) Try.f94 w_impl_areDots_cut w_impl_areDots_keep ps_impl_areDots rs_impl_areDots j X) = _
  rw [lim_succ (fun j r h => whole_mono j r h)]
  simp only [w_impl_areDots_0, lim_ite, lim_bind, lim_const]
  all_goals rfl

/-! ### impl.PictureOk -/
abbrev ps_impl_PictureOk : List PK := [(.val false (.sl 3 (.int .i64))), (.val false (.int .i64)), (.val false (.int .i64))]
abbrev rs_impl_PictureOk : List RK := [(.own false .bool)]
section
variable (F_impl_isSide : dens ps_impl_isSide → Option (outs ps_impl_isSide × rdens rs_impl_isSide))
variable (F_impl_areDots : dens ps_impl_areDots → Option (outs ps_impl_areDots × rdens rs_impl_areDots))
abbrev w_impl_PictureOk_keep : Nat → List Nat := kp []
abbrev w_impl_PictureOk_cut : Nat → Bool := memC []
abbrev w_impl_PictureOk_Γ : Nat → Option Sig := tab [(93, ⟨ps_impl_isSide, rs_impl_isSide, F_impl_isSide⟩), (94, ⟨ps_impl_areDots, rs_impl_areDots, F_impl_areDots⟩)]
theorem w_impl_PictureOk_0 (j : Nat) (X : dens ps_impl_PictureOk) : whole Try.prog (w_impl_PictureOk_Γ F_impl_isSide F_impl_areDots) Try.f68 w_impl_PictureOk_cut w_impl_PictureOk_keep ps_impl_PictureOk rs_impl_PictureOk (j + 1) X =
    (F_impl_isSide ((X.snd.fst), ())).bind fun r0 =>
      if r0.snd.fst = true then
        (F_impl_isSide ((X.snd.snd.fst), ())).bind fun r1 =>
          if r1.snd.fst = true then
            if ((↑(List.length X.fst) : Int) == IntKind.i64.wrap (X.snd.fst * X.snd.snd.fst)) = true then
              (F_impl_areDots ((X.fst), ())).bind fun r2 =>
                some ((), ((r2.snd.fst), ()))
            else
              some ((), (false, ()))
          else
            some ((), (false, ()))
      else
        some ((), (false, ())) := by kernel_rfl
end
noncomputable def F_impl_PictureOk : (List Int) × Int × Int × Unit → Option ((Unit) × Bool × Unit) := (sigOf Try.prog (w_impl_PictureOk_Γ F_impl_isSide F_impl_areDots) Try.f68 w_impl_PictureOk_cut w_impl_PictureOk_keep ps_impl_PictureOk rs_impl_PictureOk).F
theorem ok_impl_PictureOk : FnOk Try.prog 68 ⟨ps_impl_PictureOk, rs_impl_PictureOk, F_impl_PictureOk⟩ := sigOk (Γ := w_impl_PictureOk_Γ F_impl_isSide F_impl_areDots) (cut := w_impl_PictureOk_cut) (keep := w_impl_PictureOk_keep) (tab_cons ok_impl_isSide (tab_cons ok_impl_areDots tab_nil)) Try.func68 (by kernel_rfl) rfl
theorem F_impl_PictureOk_eq (X : (List Int) × Int × Int × Unit) : F_impl_PictureOk X =
    (F_impl_isSide ((X.snd.fst), ())).bind fun r0 =>
      if r0.snd.fst = true then
        (F_impl_isSide ((X.snd.snd.fst), ())).bind fun r1 =>
          if r1.snd.fst = true then
            if ((↑(List.length X.fst) : Int) == IntKind.i64.wrap (X.snd.fst * X.snd.snd.fst)) = true then
              (F_impl_areDots ((X.fst), ())).bind fun r2 =>
                some ((), ((r2.snd.fst), ()))
            else
              some ((), (false, ()))
          else
            some ((), (false, ()))
      else
        some ((), (false, ())) := by
  show lim (fun j => whole Try.prog (w_impl_PictureOk_Γ F_impl_isSide F_impl_areDots) Try.f68 w_impl_PictureOk_cut w_impl_PictureOk_keep ps_impl_PictureOk rs_impl_PictureOk j X) = _
  rw [lim_succ (fun j r h => whole_mono j r h)]
  simp only [w_impl_PictureOk_0, lim_ite, lim_bind, lim_const]
  all_goals rfl

/-! ### slices.Clone[[]int,int] -/
abbrev ps_slices_Clone_int_int : List PK := [(.val false (.sl 3 (.int .i64)))]
abbrev rs_slices_Clone_int_int : List RK := [(.own false (.sl 3 (.int .i64)))]
section
abbrev w_slices_Clone_int_int_keep : Nat → List Nat := kp []
abbrev w_slices_Clone_int_int_cut : Nat → Bool := memC []
abbrev w_slices_Clone_int_int_Γ : Nat → Option Sig := tab []
theorem w_slices_Clone_int_int_0 (j : Nat) (X : dens ps_slices_Clone_int_int) : whole Try.prog w_slices_Clone_int_int_Γ Try.f69 w_slices_Clone_int_int_cut w_slices_Clone_int_int_keep ps_slices_Clone_int_int rs_slices_Clone_int_int (j + 1) X =
    if List.length X.fst = 0 then
      both
        (some ((), ([], ())))
        (if (0 + List.length X.fst) * 8 ≤ 140737488355328 then
          some ((), (([] ++ X.fst), ()))
        else
          none)
    else
      if (0 + List.length X.fst) * 8 ≤ 140737488355328 then
        some ((), (([] ++ X.fst), ()))
      else
        none := by kernel_rfl
end
noncomputable def F_slices_Clone_int_int : (List Int) × Unit → Option ((Unit) × (List Int) × Unit) := (sigOf Try.prog (w_slices_Clone_int_int_Γ) Try.f69 w_slices_Clone_int_int_cut w_slices_Clone_int_int_keep ps_slices_Clone_int_int rs_slices_Clone_int_int).F
theorem ok_slices_Clone_int_int : FnOk Try.prog 69 ⟨ps_slices_Clone_int_int, rs_slices_Clone_int_int, F_slices_Clone_int_int⟩ := sigOk (Γ := w_slices_Clone_int_int_Γ) (cut := w_slices_Clone_int_int_cut) (keep := w_slices_Clone_int_int_keep) tab_nil Try.func69 (by kernel_rfl) rfl
theorem F_slices_Clone_int_int_eq (X : (List Int) × Unit) : F_slices_Clone_int_int X =
    if List.length X.fst = 0 then
      both
        (some ((), ([], ())))
        (if (0 + List.length X.fst) * 8 ≤ 140737488355328 then
          some ((), (([] ++ X.fst), ()))
        else
          none)
    else
      if (0 + List.length X.fst) * 8 ≤ 140737488355328 then
        some ((), (([] ++ X.fst), ()))
      else
        none := by
  show lim (fun j => whole Try.prog (w_slices_Clone_int_int_Γ) Try.f69 w_slices_Clone_int_int_cut w_slices_Clone_int_int_keep ps_slices_Clone_int_int rs_slices_Clone_int_int j X) = _
  rw [lim_succ (fun j r h => whole_mono j r h)]
  simp only [w_slices_Clone_int_int_0, lim_ite, lim_bind, lim_const]
  all_goals rfl

/-! ### impl.LineOf -/
abbrev ps_impl_LineOf : List PK := [(.val false (.sl 3 (.int .i64))), (.val false (.int .i64)), (.val false (.int .i64)), (.val false (.int .i64))]
abbrev rs_impl_LineOf : List RK := [(.own false (.sl 3 (.int .i64)))]
section
variable (F_impl_within : dens ps_impl_within → Option (outs ps_impl_within × rdens rs_impl_within))
variable (F_impl_PictureOk : dens ps_impl_PictureOk → Option (outs ps_impl_PictureOk × rdens rs_impl_PictureOk))
variable (F_slices_Clone_int_int : dens ps_slices_Clone_int_int → Option (outs ps_slices_Clone_int_int × rdens rs_slices_Clone_int_int))
abbrev w_impl_LineOf_keep : Nat → List Nat := kp []
abbrev w_impl_LineOf_cut : Nat → Bool := memC []
abbrev w_impl_LineOf_Γ : Nat → Option Sig := tab [(64, ⟨ps_impl_within, rs_impl_within, F_impl_within⟩), (68, ⟨ps_impl_PictureOk, rs_impl_PictureOk, F_impl_PictureOk⟩), (69, ⟨ps_slices_Clone_int_int, rs_slices_Clone_int_int, F_slices_Clone_int_int⟩)]
theorem w_impl_LineOf_0 (j : Nat) (X : dens ps_impl_LineOf) : whole Try.prog (w_impl_LineOf_Γ F_impl_within F_impl_PictureOk F_slices_Clone_int_int) Try.f31 w_impl_LineOf_cut w_impl_LineOf_keep ps_impl_LineOf rs_impl_LineOf (j + 1) X =
    (F_impl_PictureOk ((X.fst), ((X.snd.fst), ((X.snd.snd.fst), ())))).bind fun r0 =>
      if (!r0.snd.fst) = true then
        some ((), ([], ()))
      else
        (F_impl_within ((X.snd.snd.snd.fst), (0, ((IntKind.i64.wrap (X.snd.snd.fst - 1)), ())))).bind fun r1 =>
          if (!r1.snd.fst) = true then
            some ((), ([], ()))
          else
            if 0 ≤ IntKind.i64.wrap (X.snd.snd.snd.fst * X.snd.fst) then
              if IntKind.i64.wrap (X.snd.snd.snd.fst * X.snd.fst) ≤ IntKind.i64.wrap (IntKind.i64.wrap (X.snd.snd.snd.fst + 1) * X.snd.fst) then
                if IntKind.i64.wrap (IntKind.i64.wrap (X.snd.snd.snd.fst + 1) * X.snd.fst) ≤ (↑(List.length X.fst) : Int) then
                  (F_slices_Clone_int_int ((List.take ((some (IntKind.i64.wrap (IntKind.i64.wrap (X.snd.snd.snd.fst + 1) * X.snd.fst))).getD (↑(List.length X.fst) : Int) - (some (IntKind.i64.wrap (X.snd.snd.snd.fst * X.snd.fst))).getD 0).toNat (List.drop ((some (IntKind.i64.wrap (X.snd.snd.snd.fst * X.snd.fst))).getD 0).toNat X.fst)), ())).bind fun r2 =>
                    some ((), ((r2.snd.fst), ()))
                else
                  none
              else
                none
            else
              none := by kernel_rfl
end
noncomputable def F_impl_LineOf : (List Int) × Int × Int × Int × Unit → Option ((Unit) × (List Int) × Unit) := (sigOf Try.prog (w_impl_LineOf_Γ F_impl_within F_impl_PictureOk F_slices_Clone_int_int) Try.f31 w_impl_LineOf_cut w_impl_LineOf_keep ps_impl_LineOf rs_impl_LineOf).F
theorem ok_impl_LineOf : FnOk Try.prog 31 ⟨ps_impl_LineOf, rs_impl_LineOf, F_impl_LineOf⟩ := sigOk (Γ := w_impl_LineOf_Γ F_impl_within F_impl_PictureOk F_slices_Clone_int_int) (cut := w_impl_LineOf_cut) (keep := w_impl_LineOf_keep) (tab_cons ok_impl_within (tab_cons ok_impl_PictureOk (tab_cons ok_slices_Clone_int_int tab_nil))) Try.func31 (by kernel_rfl) rfl
theorem F_impl_LineOf_eq (X : (List Int) × Int × Int × Int × Unit) : F_impl_LineOf X =
    (F_impl_PictureOk ((X.fst), ((X.snd.fst), ((X.snd.snd.fst), ())))).bind fun r0 =>
      if (!r0.snd.fst) = true then
        some ((), ([], ()))
      else
        (F_impl_within ((X.snd.snd.snd.fst), (0, ((IntKind.i64.wrap (X.snd.snd.fst - 1)), ())))).bind fun r1 =>
          if (!r1.snd.fst) = true then
            some ((), ([], ()))
          else
            if 0 ≤ IntKind.i64.wrap (X.snd.snd.snd.fst * X.snd.fst) then
              if IntKind.i64.wrap (X.snd.snd.snd.fst * X.snd.fst) ≤ IntKind.i64.wrap (IntKind.i64.wrap (X.snd.snd.snd.fst + 1) * X.snd.fst) then
                if IntKind.i64.wrap (IntKind.i64.wrap (X.snd.snd.snd.fst + 1) * X.snd.fst) ≤ (↑(List.length X.fst) : Int) then
                  (F_slices_Clone_int_int ((List.take ((some (IntKind.i64.wrap (IntKind.i64.wrap (X.snd.snd.snd.fst + 1) * X.snd.fst))).getD (↑(List.length X.fst) : Int) - (some (IntKind.i64.wrap (X.snd.snd.snd.fst * X.snd.fst))).getD 0).toNat (List.drop ((some (IntKind.i64.wrap (X.snd.snd.snd.fst * X.snd.fst))).getD 0).toNat X.fst)), ())).bind fun r2 =>
                    some ((), ((r2.snd.fst), ()))
                else
                  none
              else
                none
            else
              none := by
  show lim (fun j => whole Try.prog (w_impl_LineOf_Γ F_impl_within F_impl_PictureOk F_slices_Clone_int_int) Try.f31 w_impl_LineOf_cut w_impl_LineOf_keep ps_impl_LineOf rs_impl_LineOf j X) = _
  rw [lim_succ (fun j r h => whole_mono j r h)]
  simp only [w_impl_LineOf_0, lim_ite, lim_bind, lim_const]
  all_goals rfl

/-! ### laws.eqIntS -/
abbrev ps_laws_eqIntS : List PK := [(.val false (.sl 3 (.int .i64))), (.val false (.sl 3 (.int .i64)))]
abbrev rs_laws_eqIntS : List RK := [(.own false .bool)]
section
abbrev w_laws_eqIntS_keep : Nat → List Nat := kp [(4, [0, 1, 5])]
abbrev w_laws_eqIntS_cut : Nat → Bool := memC []
abbrev w_laws_eqIntS_Γ : Nat → Option Sig := tab []
noncomputable def w_laws_eqIntS_4 (j : Nat) (X : dens ps_laws_eqIntS) (v0 : List (Ty.den (.int .i64))) (v1 : List (Ty.den (.int .i64))) (v2 : Int) : Option (outs ps_laws_eqIntS × rdens rs_laws_eqIntS) := run Try.prog w_laws_eqIntS_Γ (fin Try.prog Try.f32 ps_laws_eqIntS rs_laws_eqIntS X) w_laws_eqIntS_cut (resvP ps_laws_eqIntS X startN) w_laws_eqIntS_keep j (headTodo 4 (bodyOf Try.f32))
  ⟨sparse 26 0 [(0, (.c (.bor 3 (.int .i64) v0))), (1, (.c (.bor 3 (.int .i64) v1))), (5, (.c (.int .i64 v2)))], []⟩
theorem w_laws_eqIntS_0 (j : Nat) (X : dens ps_laws_eqIntS) : whole Try.prog w_laws_eqIntS_Γ Try.f32 w_laws_eqIntS_cut w_laws_eqIntS_keep ps_laws_eqIntS rs_laws_eqIntS (j + 1) X =
    if ((↑(List.length X.fst) : Int) != (↑(List.length X.snd.fst) : Int)) = true then
      some ((), (false, ()))
    else
      w_laws_eqIntS_4 j X (X.fst) (X.snd.fst) 0 := by kernel_rfl
theorem w_laws_eqIntS_4_step (j : Nat) (X : dens ps_laws_eqIntS) (v0 : List (Ty.den (.int .i64))) (v1 : List (Ty.den (.int .i64))) (v2 : Int) : w_laws_eqIntS_4 (j + 1) X v0 v1 v2 =
    if decide (v2 < (↑v0.length : Int)) = true then
      if 0 ≤ v2 then
        if v2 < (↑v0.length : Int) then
          if 0 ≤ v2 then
            if v2 < (↑v1.length : Int) then
              if (v0.getD v2.toNat (Ty.int IntKind.i64).z != v1.getD v2.toNat (Ty.int IntKind.i64).z) = true then
                some ((), (false, ()))
              else
                w_laws_eqIntS_4 j X v0 v1 (IntKind.i64.wrap (v2 + 1))
            else
              none
          else
            none
        else
          none
      else
        none
    else
      some ((), (true, ())) := by kernel_rfl
end
noncomputable def F_laws_eqIntS : (List Int) × (List Int) × Unit → Option ((Unit) × Bool × Unit) := (sigOf Try.prog (w_laws_eqIntS_Γ) Try.f32 w_laws_eqIntS_cut w_laws_eqIntS_keep ps_laws_eqIntS rs_laws_eqIntS).F
theorem ok_laws_eqIntS : FnOk Try.prog 32 ⟨ps_laws_eqIntS, rs_laws_eqIntS, F_laws_eqIntS⟩ := sigOk (Γ := w_laws_eqIntS_Γ) (cut := w_laws_eqIntS_cut) (keep := w_laws_eqIntS_keep) tab_nil Try.func32 (by kernel_rfl) rfl
noncomputable def H_laws_eqIntS_4 (X : (List Int) × (List Int) × Unit) (v0 : List Int) (v1 : List Int) (v2 : Int) : Option ((Unit) × Bool × Unit) := lim fun j => w_laws_eqIntS_4 j X v0 v1 v2
theorem H_laws_eqIntS_4_eq (X : (List Int) × (List Int) × Unit) (v0 : List Int) (v1 : List Int) (v2 : Int) : H_laws_eqIntS_4 X v0 v1 v2 =
    if decide (v2 < (↑v0.length : Int)) = true then
      if 0 ≤ v2 then
        if v2 < (↑v0.length : Int) then
          if 0 ≤ v2 then
            if v2 < (↑v1.length : Int) then
              if (v0.getD v2.toNat (0 : Int) != v1.getD v2.toNat (0 : Int)) = true then
                some ((), (false, ()))
              else
                H_laws_eqIntS_4 X v0 v1 (IntKind.i64.wrap (v2 + 1))
            else
              none
          else
            none
        else
          none
      else
        none
    else
      some ((), (true, ())) := by
  show lim (fun j => w_laws_eqIntS_4 j X v0 v1 v2) = _
  rw [lim_succ (G := fun j => w_laws_eqIntS_4 j X v0 v1 v2) (fun j r h => run_mono _ _ _ _ h)]
  simp only [w_laws_eqIntS_4_step, lim_ite, lim_bind, lim_const]
  all_goals rfl
theorem F_laws_eqIntS_eq (X : (List Int) × (List Int) × Unit) : F_laws_eqIntS X =
    if ((↑(List.length X.fst) : Int) != (↑(List.length X.snd.fst) : Int)) = true then
      some ((), (false, ()))
    else
      H_laws_eqIntS_4 X (X.fst) (X.snd.fst) 0 := by
  show lim (fun j => whole Try.prog (w_laws_eqIntS_Γ) Try.f32 w_laws_eqIntS_cut w_laws_eqIntS_keep ps_laws_eqIntS rs_laws_eqIntS j X) = _
  rw [lim_succ (fun j r h => whole_mono j r h)]
  simp only [w_laws_eqIntS_0, lim_ite, lim_bind, lim_const]
  all_goals rfl

/-! ### laws.markIntS -/
abbrev ps_laws_markIntS : List PK := [(.mu false (.sl 3 (.int .i64))), (.val false (.int .i64))]
abbrev rs_laws_markIntS : List RK := [(.own false (.int .i64))]
section
abbrev w_laws_markIntS_keep : Nat → List Nat := kp [(2, [0, 1, 5])]
abbrev w_laws_markIntS_cut : Nat → Bool := memC []
abbrev w_laws_markIntS_Γ : Nat → Option Sig := tab []
noncomputable def w_laws_markIntS_2 (j : Nat) (X : dens ps_laws_markIntS) (v0 : Int) (v1 : Int) (v2 : List (Ty.den (.int .i64))) : Option (outs ps_laws_markIntS × rdens rs_laws_markIntS) := run Try.prog w_laws_markIntS_Γ (fin Try.prog Try.f33 ps_laws_markIntS rs_laws_markIntS X) w_laws_markIntS_cut (resvP ps_laws_markIntS X startN) w_laws_markIntS_keep j (headTodo 2 (bodyOf Try.f33))
  ⟨sparse 19 0 [(0, (.c (.own 19200000))), (1, (.c (.int .i64 v0))), (5, (.c (.int .i64 v1)))], [(19200000, (.row true 0 3 (.int .i64) v2))]⟩
theorem w_laws_markIntS_0 (j : Nat) (X : dens ps_laws_markIntS) : whole Try.prog w_laws_markIntS_Γ Try.f33 w_laws_markIntS_cut w_laws_markIntS_keep ps_laws_markIntS rs_laws_markIntS (j + 1) X =
    w_laws_markIntS_2 j X (X.snd.fst) 0 (X.fst) := by kernel_rfl
theorem w_laws_markIntS_2_step (j : Nat) (X : dens ps_laws_markIntS) (v0 : Int) (v1 : Int) (v2 : List (Ty.den (.int .i64))) : w_laws_markIntS_2 (j + 1) X v0 v1 v2 =
    if decide (v1 < (↑v2.length : Int)) = true then
      if 0 ≤ v1 then
        if v1 < (↑v2.length : Int) then
          w_laws_markIntS_2 j X (IntKind.i64.wrap (v0 + 1)) (IntKind.i64.wrap (v1 + 1)) (v2.set v1.toNat v0)
        else
          none
      else
        none
    else
      some ((v2, ()), (v0, ())) := by kernel_rfl
end
noncomputable def F_laws_markIntS : (List Int) × Int × Unit → Option (((List Int) × Unit) × Int × Unit) := (sigOf Try.prog (w_laws_markIntS_Γ) Try.f33 w_laws_markIntS_cut w_laws_markIntS_keep ps_laws_markIntS rs_laws_markIntS).F
theorem ok_laws_markIntS : FnOk Try.prog 33 ⟨ps_laws_markIntS, rs_laws_markIntS, F_laws_markIntS⟩ := sigOk (Γ := w_laws_markIntS_Γ) (cut := w_laws_markIntS_cut) (keep := w_laws_markIntS_keep) tab_nil Try.func33 (by kernel_rfl) rfl
noncomputable def H_laws_markIntS_2 (X : (List Int) × Int × Unit) (v0 : Int) (v1 : Int) (v2 : List Int) : Option (((List Int) × Unit) × Int × Unit) := lim fun j => w_laws_markIntS_2 j X v0 v1 v2
theorem H_laws_markIntS_2_eq (X : (List Int) × Int × Unit) (v0 : Int) (v1 : Int) (v2 : List Int) : H_laws_markIntS_2 X v0 v1 v2 =
    if decide (v1 < (↑v2.length : Int)) = true then
      if 0 ≤ v1 then
        if v1 < (↑v2.length : Int) then
          H_laws_markIntS_2 X (IntKind.i64.wrap (v0 + 1)) (IntKind.i64.wrap (v1 + 1)) (v2.set v1.toNat v0)
        else
          none
      else
        none
    else
      some ((v2, ()), (v0, ())) := by
  show lim (fun j => w_laws_markIntS_2 j X v0 v1 v2) = _
  rw [lim_succ (G := fun j => w_laws_markIntS_2 j X v0 v1 v2) (fun j r h => run_mono _ _ _ _ h)]
  simp only [w_laws_markIntS_2_step, lim_ite, lim_bind, lim_const]
  all_goals rfl
theorem F_laws_markIntS_eq (X : (List Int) × Int × Unit) : F_laws_markIntS X =
    H_laws_markIntS_2 X (X.snd.fst) 0 (X.fst) := by
  show lim (fun j => whole Try.prog (w_laws_markIntS_Γ) Try.f33 w_laws_markIntS_cut w_laws_markIntS_keep ps_laws_markIntS rs_laws_markIntS j X) = _
  rw [lim_succ (fun j r h => whole_mono j r h)]
  simp only [w_laws_markIntS_0, lim_ite, lim_bind, lim_const]
  all_goals rfl

/-! ### laws.heldIntS -/
abbrev ps_laws_heldIntS : List PK := [(.val false (.sl 3 (.int .i64))), (.val false (.int .i64))]
abbrev rs_laws_heldIntS : List RK := [(.own false (.int .i64))]
section
abbrev w_laws_heldIntS_keep : Nat → List Nat := kp [(2, [0, 1, 5])]
abbrev w_laws_heldIntS_cut : Nat → Bool := memC []
abbrev w_laws_heldIntS_Γ : Nat → Option Sig := tab []
noncomputable def w_laws_heldIntS_2 (j : Nat) (X : dens ps_laws_heldIntS) (v0 : List (Ty.den (.int .i64))) (v1 : Int) (v2 : Int) : Option (outs ps_laws_heldIntS × rdens rs_laws_heldIntS) := run Try.prog w_laws_heldIntS_Γ (fin Try.prog Try.f34 ps_laws_heldIntS rs_laws_heldIntS X) w_laws_heldIntS_cut (resvP ps_laws_heldIntS X startN) w_laws_heldIntS_keep j (headTodo 2 (bodyOf Try.f34))
  ⟨sparse 21 0 [(0, (.c (.bor 3 (.int .i64) v0))), (1, (.c (.int .i64 v1))), (5, (.c (.int .i64 v2)))], []⟩
theorem w_laws_heldIntS_0 (j : Nat) (X : dens ps_laws_heldIntS) : whole Try.prog w_laws_heldIntS_Γ Try.f34 w_laws_heldIntS_cut w_laws_heldIntS_keep ps_laws_heldIntS rs_laws_heldIntS (j + 1) X =
    w_laws_heldIntS_2 j X (X.fst) (X.snd.fst) 0 := by kernel_rfl
theorem w_laws_heldIntS_2_step (j : Nat) (X : dens ps_laws_heldIntS) (v0 : List (Ty.den (.int .i64))) (v1 : Int) (v2 : Int) : w_laws_heldIntS_2 (j + 1) X v0 v1 v2 =
    if decide (v2 < (↑v0.length : Int)) = true then
      if 0 ≤ v2 then
        if v2 < (↑v0.length : Int) then
          if (v0.getD v2.toNat (Ty.int IntKind.i64).z != v1) = true then
            some ((), ((Int.negSucc 0), ()))
          else
            w_laws_heldIntS_2 j X v0 (IntKind.i64.wrap (v1 + 1)) (IntKind.i64.wrap (v2 + 1))
        else
          none
      else
        none
    else
      some ((), (v1, ())) := by kernel_rfl
end
noncomputable def F_laws_heldIntS : (List Int) × Int × Unit → Option ((Unit) × Int × Unit) := (sigOf Try.prog (w_laws_heldIntS_Γ) Try.f34 w_laws_heldIntS_cut w_laws_heldIntS_keep ps_laws_heldIntS rs_laws_heldIntS).F
theorem ok_laws_heldIntS : FnOk Try.prog 34 ⟨ps_laws_heldIntS, rs_laws_heldIntS, F_laws_heldIntS⟩ := sigOk (Γ := w_laws_heldIntS_Γ) (cut := w_laws_heldIntS_cut) (keep := w_laws_heldIntS_keep) tab_nil Try.func34 (by kernel_rfl) rfl
noncomputable def H_laws_heldIntS_2 (X : (List Int) × Int × Unit) (v0 : List Int) (v1 : Int) (v2 : Int) : Option ((Unit) × Int × Unit) := lim fun j => w_laws_heldIntS_2 j X v0 v1 v2
theorem H_laws_heldIntS_2_eq (X : (List Int) × Int × Unit) (v0 : List Int) (v1 : Int) (v2 : Int) : H_laws_heldIntS_2 X v0 v1 v2 =
    if decide (v2 < (↑v0.length : Int)) = true then
      if 0 ≤ v2 then
        if v2 < (↑v0.length : Int) then
          if (v0.getD v2.toNat (0 : Int) != v1) = true then
            some ((), ((Int.negSucc 0), ()))
          else
            H_laws_heldIntS_2 X v0 (IntKind.i64.wrap (v1 + 1)) (IntKind.i64.wrap (v2 + 1))
        else
          none
      else
        none
    else
      some ((), (v1, ())) := by
  show lim (fun j => w_laws_heldIntS_2 j X v0 v1 v2) = _
  rw [lim_succ (G := fun j => w_laws_heldIntS_2 j X v0 v1 v2) (fun j r h => run_mono _ _ _ _ h)]
  simp only [w_laws_heldIntS_2_step, lim_ite, lim_bind, lim_const]
  all_goals rfl
theorem F_laws_heldIntS_eq (X : (List Int) × Int × Unit) : F_laws_heldIntS X =
    H_laws_heldIntS_2 X (X.fst) (X.snd.fst) 0 := by
  show lim (fun j => whole Try.prog (w_laws_heldIntS_Γ) Try.f34 w_laws_heldIntS_cut w_laws_heldIntS_keep ps_laws_heldIntS rs_laws_heldIntS j X) = _
  rw [lim_succ (fun j r h => whole_mono j r h)]
  simp only [w_laws_heldIntS_0, lim_ite, lim_bind, lim_const]
  all_goals rfl

/-! ### laws.FnExactLineOf -/
abbrev ps_laws_FnExactLineOf : List PK := [(.val false (.sl 3 (.int .i64))), (.val false (.int .i64)), (.val false (.int .i64)), (.val false (.int .i64))]
abbrev rs_laws_FnExactLineOf : List RK := [(.own false .bool)]
section
variable (F_spec_LineOf : dens ps_spec_LineOf → Option (outs ps_spec_LineOf × rdens rs_spec_LineOf))
variable (F_laws_toIntS : dens ps_laws_toIntS → Option (outs ps_laws_toIntS × rdens rs_laws_toIntS))
variable (F_impl_LineOf : dens ps_impl_LineOf → Option (outs ps_impl_LineOf × rdens rs_impl_LineOf))
variable (F_laws_eqIntS : dens ps_laws_eqIntS → Option (outs ps_laws_eqIntS × rdens rs_laws_eqIntS))
variable (F_laws_markIntS : dens ps_laws_markIntS → Option (outs ps_laws_markIntS × rdens rs_laws_markIntS))
variable (F_laws_heldIntS : dens ps_laws_heldIntS → Option (outs ps_laws_heldIntS × rdens rs_laws_heldIntS))
abbrev w_laws_FnExactLineOf_keep : Nat → List Nat := kp []
abbrev w_laws_FnExactLineOf_cut : Nat → Bool := memC []
abbrev w_laws_FnExactLineOf_Γ : Nat → Option Sig := tab [(29, ⟨ps_spec_LineOf, rs_spec_LineOf, F_spec_LineOf⟩), (30, ⟨ps_laws_toIntS, rs_laws_toIntS, F_laws_toIntS⟩), (31, ⟨ps_impl_LineOf, rs_impl_LineOf, F_impl_LineOf⟩), (32, ⟨ps_laws_eqIntS, rs_laws_eqIntS, F_laws_eqIntS⟩), (33, ⟨ps_laws_markIntS, rs_laws_markIntS, F_laws_markIntS⟩), (34, ⟨ps_laws_heldIntS, rs_laws_heldIntS, F_laws_heldIntS⟩)]
theorem w_laws_FnExactLineOf_0 (j : Nat) (X : dens ps_laws_FnExactLineOf) : whole Try.prog (w_laws_FnExactLineOf_Γ F_spec_LineOf F_laws_toIntS F_impl_LineOf F_laws_eqIntS F_laws_markIntS F_laws_heldIntS) Try.f7 w_laws_FnExactLineOf_cut w_laws_FnExactLineOf_keep ps_laws_FnExactLineOf rs_laws_FnExactLineOf (j + 1) X =
    if decide ((↑(List.length X.fst) : Int) > 1048576) = true then
      some ((), (true, ()))
    else
      (F_laws_toIntS ((X.fst), ())).bind fun r0 =>
        (F_spec_LineOf ((r0.snd.fst), ((X.snd.fst), ((X.snd.snd.fst), ((X.snd.snd.snd.fst), ()))))).bind fun r1 =>
          (F_laws_toIntS ((X.fst), ())).bind fun r2 =>
            (F_impl_LineOf ((r2.snd.fst), ((X.snd.fst), ((X.snd.snd.fst), ((X.snd.snd.snd.fst), ()))))).bind fun r3 =>
              (F_laws_eqIntS ((r3.snd.fst), ((r1.snd.fst), ()))).bind fun r4 =>
                if (!r4.snd.fst) = true then
                  some ((), (false, ()))
                else
                  (F_laws_toIntS ((X.fst), ())).bind fun r5 =>
                    (F_laws_eqIntS ((r2.snd.fst), ((r5.snd.fst), ()))).bind fun r6 =>
                      if (!r6.snd.fst) = true then
                        some ((), (false, ()))
                      else
                        (F_laws_markIntS ((r2.snd.fst), (1, ()))).bind fun r7 =>
                          if decide (r7.snd.fst < 0) = true then
                            some ((), (false, ()))
                          else
                            (F_laws_eqIntS ((r3.snd.fst), ((r1.snd.fst), ()))).bind fun r8 =>
                              if (!r8.snd.fst) = true then
                                some ((), (false, ()))
                              else
                                (F_laws_markIntS ((r3.snd.fst), (1, ()))).bind fun r9 =>
                                  (F_laws_heldIntS ((r9.fst.fst), (1, ()))).bind fun r10 =>
                                    if decide (r10.snd.fst < 0) = true then
                                      some ((), (false, ()))
                                    else
                                      if (r10.snd.fst != r9.snd.fst) = true then
                                        some ((), (false, ()))
                                      else
                                        (F_laws_toIntS ((X.fst), ())).bind fun r11 =>
                                          (F_impl_LineOf ((r11.snd.fst), ((X.snd.fst), ((X.snd.snd.fst), ((X.snd.snd.snd.fst), ()))))).bind fun r12 =>
                                            (F_laws_eqIntS ((r12.snd.fst), ((r1.snd.fst), ()))).bind fun r13 =>
                                              if (!r13.snd.fst) = true then
                                                some ((), (false, ()))
                                              else
                                                (F_laws_heldIntS ((r9.fst.fst), (1, ()))).bind fun r14 =>
                                                  if decide (r14.snd.fst < 0) = true then
                                                    some ((), (false, ()))
                                                  else
                                                    if (r14.snd.fst != r9.snd.fst) = true then
                                                      some ((), (false, ()))
                                                    else
                                                      some ((), (true, ())) := by kernel_rfl
end
noncomputable def F_laws_FnExactLineOf : (List Int) × Int × Int × Int × Unit → Option ((Unit) × Bool × Unit) := (sigOf Try.prog (w_laws_FnExactLineOf_Γ F_spec_LineOf F_laws_toIntS F_impl_LineOf F_laws_eqIntS F_laws_markIntS F_laws_heldIntS) Try.f7 w_laws_FnExactLineOf_cut w_laws_FnExactLineOf_keep ps_laws_FnExactLineOf rs_laws_FnExactLineOf).F
theorem ok_laws_FnExactLineOf : FnOk Try.prog 7 ⟨ps_laws_FnExactLineOf, rs_laws_FnExactLineOf, F_laws_FnExactLineOf⟩ := sigOk (Γ := w_laws_FnExactLineOf_Γ F_spec_LineOf F_laws_toIntS F_impl_LineOf F_laws_eqIntS F_laws_markIntS F_laws_heldIntS) (cut := w_laws_FnExactLineOf_cut) (keep := w_laws_FnExactLineOf_keep) (tab_cons ok_spec_LineOf (tab_cons ok_laws_toIntS (tab_cons ok_impl_LineOf (tab_cons ok_laws_eqIntS (tab_cons ok_laws_markIntS (tab_cons ok_laws_heldIntS tab_nil)))))) Try.func7 (by kernel_rfl) rfl
theorem F_laws_FnExactLineOf_eq (X : (List Int) × Int × Int × Int × Unit) : F_laws_FnExactLineOf X =
    if decide ((↑(List.length X.fst) : Int) > 1048576) = true then
      some ((), (true, ()))
    else
      (F_laws_toIntS ((X.fst), ())).bind fun r0 =>
        (F_spec_LineOf ((r0.snd.fst), ((X.snd.fst), ((X.snd.snd.fst), ((X.snd.snd.snd.fst), ()))))).bind fun r1 =>
          (F_laws_toIntS ((X.fst), ())).bind fun r2 =>
            (F_impl_LineOf ((r2.snd.fst), ((X.snd.fst), ((X.snd.snd.fst), ((X.snd.snd.snd.fst), ()))))).bind fun r3 =>
              (F_laws_eqIntS ((r3.snd.fst), ((r1.snd.fst), ()))).bind fun r4 =>
                if (!r4.snd.fst) = true then
                  some ((), (false, ()))
                else
                  (F_laws_toIntS ((X.fst), ())).bind fun r5 =>
                    (F_laws_eqIntS ((r2.snd.fst), ((r5.snd.fst), ()))).bind fun r6 =>
                      if (!r6.snd.fst) = true then
                        some ((), (false, ()))
                      else
                        (F_laws_markIntS ((r2.snd.fst), (1, ()))).bind fun r7 =>
                          if decide (r7.snd.fst < 0) = true then
                            some ((), (false, ()))
                          else
                            (F_laws_eqIntS ((r3.snd.fst), ((r1.snd.fst), ()))).bind fun r8 =>
                              if (!r8.snd.fst) = true then
                                some ((), (false, ()))
                              else
                                (F_laws_markIntS ((r3.snd.fst), (1, ()))).bind fun r9 =>
                                  (F_laws_heldIntS ((r9.fst.fst), (1, ()))).bind fun r10 =>
                                    if decide (r10.snd.fst < 0) = true then
                                      some ((), (false, ()))
                                    else
                                      if (r10.snd.fst != r9.snd.fst) = true then
                                        some ((), (false, ()))
                                      else
                                        (F_laws_toIntS ((X.fst), ())).bind fun r11 =>
                                          (F_impl_LineOf ((r11.snd.fst), ((X.snd.fst), ((X.snd.snd.fst), ((X.snd.snd.snd.fst), ()))))).bind fun r12 =>
                                            (F_laws_eqIntS ((r12.snd.fst), ((r1.snd.fst), ()))).bind fun r13 =>
                                              if (!r13.snd.fst) = true then
                                                some ((), (false, ()))
                                              else
                                                (F_laws_heldIntS ((r9.fst.fst), (1, ()))).bind fun r14 =>
                                                  if decide (r14.snd.fst < 0) = true then
                                                    some ((), (false, ()))
                                                  else
                                                    if (r14.snd.fst != r9.snd.fst) = true then
                                                      some ((), (false, ()))
                                                    else
                                                      some ((), (true, ())) := by
  show lim (fun j => whole Try.prog (w_laws_FnExactLineOf_Γ F_spec_LineOf F_laws_toIntS F_impl_LineOf F_laws_eqIntS F_laws_markIntS F_laws_heldIntS) Try.f7 w_laws_FnExactLineOf_cut w_laws_FnExactLineOf_keep ps_laws_FnExactLineOf rs_laws_FnExactLineOf j X) = _
  rw [lim_succ (fun j r h => whole_mono j r h)]
  simp only [w_laws_FnExactLineOf_0, lim_ite, lim_bind, lim_const]
  all_goals rfl
end Go.Proofs.Ytceffcfnjjlbkaa.E
