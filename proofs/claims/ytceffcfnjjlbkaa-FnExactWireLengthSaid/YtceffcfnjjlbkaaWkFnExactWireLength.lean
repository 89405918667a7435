/- The walks of laws.FnExactWireLength. -/
import Derived.Test.YtceffcfnjjlbkaaE30
import Derived.Test.YtceffcfnjjlbkaaProg
namespace Go.Proofs.Ytceffcfnjjlbkaa.E
open Go.RowKit
set_option linter.unusedVariables false
set_option linter.unusedSimpArgs false
set_option maxRecDepth 100000
/-! ### laws.szIntS -/
abbrev ps_laws_szIntS : List PK := [(.val false (.sl 3 (.int .i64))), (.val false (.int .i64))]
abbrev rs_laws_szIntS : List RK := [(.own false (.int .i64))]
section
abbrev w_laws_szIntS_keep : Nat → List Nat := kp []
abbrev w_laws_szIntS_cut : Nat → Bool := memC []
abbrev w_laws_szIntS_Γ : Nat → Option Sig := tab []
theorem w_laws_szIntS_0 (j : Nat) (X : dens ps_laws_szIntS) : whole Try.prog w_laws_szIntS_Γ Try.f77 w_laws_szIntS_cut w_laws_szIntS_keep ps_laws_szIntS rs_laws_szIntS (j + 1) X =
    if decide (IntKind.i64.wrap (X.snd.fst - (↑(List.length X.fst) : Int)) < 0) = true then
      some ((), ((Int.negSucc 0), ()))
    else
      some ((), ((IntKind.i64.wrap (X.snd.fst - (↑(List.length X.fst) : Int))), ())) := by kernel_rfl
end
noncomputable def F_laws_szIntS : (List Int) × Int × Unit → Option ((Unit) × Int × Unit) := (sigOf Try.prog (w_laws_szIntS_Γ) Try.f77 w_laws_szIntS_cut w_laws_szIntS_keep ps_laws_szIntS rs_laws_szIntS).F
theorem ok_laws_szIntS : FnOk Try.prog 77 ⟨ps_laws_szIntS, rs_laws_szIntS, F_laws_szIntS⟩ := sigOk (Γ := w_laws_szIntS_Γ) (cut := w_laws_szIntS_cut) (keep := w_laws_szIntS_keep) tab_nil Try.func77 (by kernel_rfl) rfl
theorem F_laws_szIntS_eq (X : (List Int) × Int × Unit) : F_laws_szIntS X =
    if decide (IntKind.i64.wrap (X.snd.fst - (↑(List.length X.fst) : Int)) < 0) = true then
      some ((), ((Int.negSucc 0), ()))
    else
      some ((), ((IntKind.i64.wrap (X.snd.fst - (↑(List.length X.fst) : Int))), ())) := by
  show lim (fun j => whole Try.prog (w_laws_szIntS_Γ) Try.f77 w_laws_szIntS_cut w_laws_szIntS_keep ps_laws_szIntS rs_laws_szIntS j X) = _
  rw [lim_succ (fun j r h => whole_mono j r h)]
  simp only [w_laws_szIntS_0, lim_ite, lim_bind, lim_const]
  all_goals rfl

/-! ### laws.szChannel -/
abbrev ps_laws_szChannel : List PK := [(.val true (.pair (.pair (.int .i64) (.pair (.int .i64) (.int .i64))) (.pair (.sl 3 (.int .i64)) (.pair (.int .i64) .bool)))), (.val false (.int .i64))]
abbrev rs_laws_szChannel : List RK := [(.own false (.int .i64))]
section
variable (F_laws_szIntS : dens ps_laws_szIntS → Option (outs ps_laws_szIntS × rdens rs_laws_szIntS))
abbrev w_laws_szChannel_keep : Nat → List Nat := kp []
abbrev w_laws_szChannel_cut : Nat → Bool := memC []
abbrev w_laws_szChannel_Γ : Nat → Option Sig := tab [(77, ⟨ps_laws_szIntS, rs_laws_szIntS, F_laws_szIntS⟩)]
theorem w_laws_szChannel_0 (j : Nat) (X : dens ps_laws_szChannel) : whole Try.prog (w_laws_szChannel_Γ F_laws_szIntS) Try.f44 w_laws_szChannel_cut w_laws_szChannel_keep ps_laws_szChannel rs_laws_szChannel (j + 1) X =
    (F_laws_szIntS ((X.fst.snd.fst), ((X.snd.fst), ()))).bind fun r0 =>
      if decide (r0.snd.fst < 0) = true then
        some ((), ((Int.negSucc 0), ()))
      else
        some ((), ((r0.snd.fst), ())) := by kernel_rfl
end
noncomputable def F_laws_szChannel : ((Int × Int × Int) × (List Int) × Int × Bool) × Int × Unit → Option ((Unit) × Int × Unit) := (sigOf Try.prog (w_laws_szChannel_Γ F_laws_szIntS) Try.f44 w_laws_szChannel_cut w_laws_szChannel_keep ps_laws_szChannel rs_laws_szChannel).F
theorem ok_laws_szChannel : FnOk Try.prog 44 ⟨ps_laws_szChannel, rs_laws_szChannel, F_laws_szChannel⟩ := sigOk (Γ := w_laws_szChannel_Γ F_laws_szIntS) (cut := w_laws_szChannel_cut) (keep := w_laws_szChannel_keep) (tab_cons ok_laws_szIntS tab_nil) Try.func44 (by kernel_rfl) rfl
theorem F_laws_szChannel_eq (X : ((Int × Int × Int) × (List Int) × Int × Bool) × Int × Unit) : F_laws_szChannel X =
    (F_laws_szIntS ((X.fst.snd.fst), ((X.snd.fst), ()))).bind fun r0 =>
      if decide (r0.snd.fst < 0) = true then
        some ((), ((Int.negSucc 0), ()))
      else
        some ((), ((r0.snd.fst), ())) := by
  show lim (fun j => whole Try.prog (w_laws_szChannel_Γ F_laws_szIntS) Try.f44 w_laws_szChannel_cut w_laws_szChannel_keep ps_laws_szChannel rs_laws_szChannel j X) = _
  rw [lim_succ (fun j r h => whole_mono j r h)]
  simp only [w_laws_szChannel_0, lim_ite, lim_bind, lim_const]
  all_goals rfl

/-! ### laws.toIntS -/
abbrev ps_laws_toIntS : List PK := [(.val false (.sl 3 (.int .i64)))]
abbrev rs_laws_toIntS : List RK := [(.own false (.sl 3 (.int .i64)))]
section
abbrev w_laws_toIntS_keep : Nat → List Nat := kp [(3, [0, 3, 4])]
abbrev w_laws_toIntS_cut : Nat → Bool := memC []
abbrev w_laws_toIntS_Γ : Nat → Option Sig := tab []
noncomputable def w_laws_toIntS_3 (j : Nat) (X : dens ps_laws_toIntS) (v0 : List (Ty.den (.int .i64))) (v1 : Int) (v2 : List (Ty.den (.int .i64))) : Option (outs ps_laws_toIntS × rdens rs_laws_toIntS) := run Try.prog w_laws_toIntS_Γ (fin Try.prog Try.f30 ps_laws_toIntS rs_laws_toIntS X) w_laws_toIntS_cut (resvP ps_laws_toIntS X startN) w_laws_toIntS_keep j (headTodo 3 (bodyOf Try.f30))
  ⟨sparse 22 0 [(0, (.c (.bor 3 (.int .i64) v0))), (3, (.c (.own 19300000))), (4, (.c (.int .i64 v1)))], [(19300000, (.row true 0 3 (.int .i64) v2))]⟩
theorem w_laws_toIntS_0 (j : Nat) (X : dens ps_laws_toIntS) : whole Try.prog w_laws_toIntS_Γ Try.f30 w_laws_toIntS_cut w_laws_toIntS_keep ps_laws_toIntS rs_laws_toIntS (j + 1) X =
    if (↑(List.length X.fst) : Int).toNat * 8 ≤ 281474976710656 then
      w_laws_toIntS_3 j X (X.fst) 0 (List.replicate (↑(List.length X.fst) : Int).toNat 0)
    else
      none := by kernel_rfl
theorem w_laws_toIntS_3_step (j : Nat) (X : dens ps_laws_toIntS) (v0 : List (Ty.den (.int .i64))) (v1 : Int) (v2 : List (Ty.den (.int .i64))) : w_laws_toIntS_3 (j + 1) X v0 v1 v2 =
    if decide (v1 < (↑v0.length : Int)) = true then
      if 0 ≤ v1 then
        if v1 < (↑v0.length : Int) then
          if 0 ≤ v1 then
            if v1 < (↑v2.length : Int) then
              w_laws_toIntS_3 j X v0 (IntKind.i64.wrap (v1 + 1)) (v2.set v1.toNat (v0.getD v1.toNat 0))
            else
              none
          else
            none
        else
          none
      else
        none
    else
      some ((), (v2, ())) := by kernel_rfl
end
noncomputable def F_laws_toIntS : (List Int) × Unit → Option ((Unit) × (List Int) × Unit) := (sigOf Try.prog (w_laws_toIntS_Γ) Try.f30 w_laws_toIntS_cut w_laws_toIntS_keep ps_laws_toIntS rs_laws_toIntS).F
theorem ok_laws_toIntS : FnOk Try.prog 30 ⟨ps_laws_toIntS, rs_laws_toIntS, F_laws_toIntS⟩ := sigOk (Γ := w_laws_toIntS_Γ) (cut := w_laws_toIntS_cut) (keep := w_laws_toIntS_keep) tab_nil Try.func30 (by kernel_rfl) rfl
noncomputable def H_laws_toIntS_3 (X : (List Int) × Unit) (v0 : List Int) (v1 : Int) (v2 : List Int) : Option ((Unit) × (List Int) × Unit) := lim fun j => w_laws_toIntS_3 j X v0 v1 v2
theorem H_laws_toIntS_3_eq (X : (List Int) × Unit) (v0 : List Int) (v1 : Int) (v2 : List Int) : H_laws_toIntS_3 X v0 v1 v2 =
    if decide (v1 < (↑v0.length : Int)) = true then
      if 0 ≤ v1 then
        if v1 < (↑v0.length : Int) then
          if 0 ≤ v1 then
            if v1 < (↑v2.length : Int) then
              H_laws_toIntS_3 X v0 (IntKind.i64.wrap (v1 + 1)) (v2.set v1.toNat (v0.getD v1.toNat 0))
            else
              none
          else
            none
        else
          none
      else
        none
    else
      some ((), (v2, ())) := by
  show lim (fun j => w_laws_toIntS_3 j X v0 v1 v2) = _
  rw [lim_succ (G := fun j => w_laws_toIntS_3 j X v0 v1 v2) (fun j r h => run_mono _ _ _ _ h)]
  simp only [w_laws_toIntS_3_step, lim_ite, lim_bind, lim_const]
  all_goals rfl
theorem F_laws_toIntS_eq (X : (List Int) × Unit) : F_laws_toIntS X =
    if (↑(List.length X.fst) : Int).toNat * 8 ≤ 281474976710656 then
      H_laws_toIntS_3 X (X.fst) 0 (List.replicate (↑(List.length X.fst) : Int).toNat 0)
    else
      none := by
  show lim (fun j => whole Try.prog (w_laws_toIntS_Γ) Try.f30 w_laws_toIntS_cut w_laws_toIntS_keep ps_laws_toIntS rs_laws_toIntS j X) = _
  rw [lim_succ (fun j r h => whole_mono j r h)]
  simp only [w_laws_toIntS_0, lim_ite, lim_bind, lim_const]
  all_goals rfl

/-! ### laws.toLink -/
abbrev ps_laws_toLink : List PK := [(.val true (.pair (.int .i64) (.pair (.int .i64) (.int .i64))))]
abbrev rs_laws_toLink : List RK := [(.own true (.pair (.int .i64) (.pair (.int .i64) (.int .i64))))]
section
abbrev w_laws_toLink_keep : Nat → List Nat := kp []
abbrev w_laws_toLink_cut : Nat → Bool := memC []
abbrev w_laws_toLink_Γ : Nat → Option Sig := tab []
theorem w_laws_toLink_0 (j : Nat) (X : dens ps_laws_toLink) : whole Try.prog w_laws_toLink_Γ Try.f79 w_laws_toLink_cut w_laws_toLink_keep ps_laws_toLink rs_laws_toLink (j + 1) X =
    some ((), ((X.fst), ())) := by kernel_rfl
end
noncomputable def F_laws_toLink : (Int × Int × Int) × Unit → Option ((Unit) × (Int × Int × Int) × Unit) := (sigOf Try.prog (w_laws_toLink_Γ) Try.f79 w_laws_toLink_cut w_laws_toLink_keep ps_laws_toLink rs_laws_toLink).F
theorem ok_laws_toLink : FnOk Try.prog 79 ⟨ps_laws_toLink, rs_laws_toLink, F_laws_toLink⟩ := sigOk (Γ := w_laws_toLink_Γ) (cut := w_laws_toLink_cut) (keep := w_laws_toLink_keep) tab_nil Try.func79 (by kernel_rfl) rfl
theorem F_laws_toLink_eq (X : (Int × Int × Int) × Unit) : F_laws_toLink X =
    some ((), ((X.fst), ())) := by
  show lim (fun j => whole Try.prog (w_laws_toLink_Γ) Try.f79 w_laws_toLink_cut w_laws_toLink_keep ps_laws_toLink rs_laws_toLink j X) = _
  rw [lim_succ (fun j r h => whole_mono j r h)]
  simp only [w_laws_toLink_0, lim_ite, lim_bind, lim_const]
  all_goals rfl

/-! ### laws.toChannel -/
abbrev ps_laws_toChannel : List PK := [(.val true (.pair (.pair (.int .i64) (.pair (.int .i64) (.int .i64))) (.pair (.sl 3 (.int .i64)) (.pair (.int .i64) .bool))))]
abbrev rs_laws_toChannel : List RK := [(.own true (.pair (.pair (.int .i64) (.pair (.int .i64) (.int .i64))) (.pair (.sl 3 (.int .i64)) (.pair (.int .i64) .bool))))]
section
variable (F_laws_toIntS : dens ps_laws_toIntS → Option (outs ps_laws_toIntS × rdens rs_laws_toIntS))
variable (F_laws_toLink : dens ps_laws_toLink → Option (outs ps_laws_toLink × rdens rs_laws_toLink))
abbrev w_laws_toChannel_keep : Nat → List Nat := kp []
abbrev w_laws_toChannel_cut : Nat → Bool := memC []
abbrev w_laws_toChannel_Γ : Nat → Option Sig := tab [(30, ⟨ps_laws_toIntS, rs_laws_toIntS, F_laws_toIntS⟩), (79, ⟨ps_laws_toLink, rs_laws_toLink, F_laws_toLink⟩)]
theorem w_laws_toChannel_0 (j : Nat) (X : dens ps_laws_toChannel) : whole Try.prog (w_laws_toChannel_Γ F_laws_toIntS F_laws_toLink) Try.f46 w_laws_toChannel_cut w_laws_toChannel_keep ps_laws_toChannel rs_laws_toChannel (j + 1) X =
    (F_laws_toLink ((X.fst.fst), ())).bind fun r0 =>
      (F_laws_toIntS ((X.fst.snd.fst), ())).bind fun r1 =>
        some ((), (((r0.snd.fst), ((r1.snd.fst), (X.fst.snd.snd))), ())) := by kernel_rfl
end
noncomputable def F_laws_toChannel : ((Int × Int × Int) × (List Int) × Int × Bool) × Unit → Option ((Unit) × ((Int × Int × Int) × (List Int) × Int × Bool) × Unit) := (sigOf Try.prog (w_laws_toChannel_Γ F_laws_toIntS F_laws_toLink) Try.f46 w_laws_toChannel_cut w_laws_toChannel_keep ps_laws_toChannel rs_laws_toChannel).F
theorem ok_laws_toChannel : FnOk Try.prog 46 ⟨ps_laws_toChannel, rs_laws_toChannel, F_laws_toChannel⟩ := sigOk (Γ := w_laws_toChannel_Γ F_laws_toIntS F_laws_toLink) (cut := w_laws_toChannel_cut) (keep := w_laws_toChannel_keep) (tab_cons ok_laws_toIntS (tab_cons ok_laws_toLink tab_nil)) Try.func46 (by kernel_rfl) rfl
theorem F_laws_toChannel_eq (X : ((Int × Int × Int) × (List Int) × Int × Bool) × Unit) : F_laws_toChannel X =
    (F_laws_toLink ((X.fst.fst), ())).bind fun r0 =>
      (F_laws_toIntS ((X.fst.snd.fst), ())).bind fun r1 =>
        some ((), (((r0.snd.fst), ((r1.snd.fst), (X.fst.snd.snd))), ())) := by
  show lim (fun j => whole Try.prog (w_laws_toChannel_Γ F_laws_toIntS F_laws_toLink) Try.f46 w_laws_toChannel_cut w_laws_toChannel_keep ps_laws_toChannel rs_laws_toChannel j X) = _
  rw [lim_succ (fun j r h => whole_mono j r h)]
  simp only [w_laws_toChannel_0, lim_ite, lim_bind, lim_const]
  all_goals rfl

/-! ### laws.eqIntS -/
abbrev ps_laws_eqIntS : List PK := [(.val false (.sl 3 (.int .i64))), (.val false (.sl 3 (.int .i64)))]
abbrev rs_laws_eqIntS : List RK := [(.own false .bool)]
section
abbrev w_laws_eqIntS_keep : Nat → List Nat := kp [(4, [0, 1, 5])]
abbrev w_laws_eqIntS_cut : Nat → Bool := memC []
abbrev w_laws_eqIntS_Γ : Nat → Option Sig := tab []
noncomputable def w_laws_eqIntS_4 (j : Nat) (X : dens ps_laws_eqIntS) (v0 : List (Ty.den (.int .i64))) (v1 : List (Ty.den (.int .i64))) (v2 : Int) : Option (outs ps_laws_eqIntS × rdens rs_laws_eqIntS) := run Try.prog w_laws_eqIntS_Γ (fin Try.prog Try.f32 ps_laws_eqIntS rs_laws_eqIntS X) w_laws_eqIntS_cut (resvP ps_laws_eqIntS X startN) w_laws_eqIntS_keep j (headTodo 4 (bodyOf Try.f32))
  ⟨sparse 26 0 [(0, (.c (.bor 3 (.int .i64) v0))), (1, (.c (.bor 3 (.int .i64) v1))), (5, (.c (.int .i64 v2)))], []⟩
theorem w_laws_eqIntS_0 (j : Nat) (X : dens ps_laws_eqIntS) : whole Try.prog w_laws_eqIntS_Γ Try.f32 w_laws_eqIntS_cut w_laws_eqIntS_keep ps_laws_eqIntS rs_laws_eqIntS (j + 1) X =
    if ((↑(List.length X.fst) : Int) != (↑(List.length X.snd.fst) : Int)) = true then
      some ((), (false, ()))
    else
      w_laws_eqIntS_4 j X (X.fst) (X.snd.fst) 0 := by kernel_rfl
theorem w_laws_eqIntS_4_step (j : Nat) (X : dens ps_laws_eqIntS) (v0 : List (Ty.den (.int .i64))) (v1 : List (Ty.den (.int .i64))) (v2 : Int) : w_laws_eqIntS_4 (j + 1) X v0 v1 v2 =
    if decide (v2 < (↑v0.length : Int)) = true then
      if 0 ≤ v2 then
        if v2 < (↑v0.length : Int) then
          if 0 ≤ v2 then
            if v2 < (↑v1.length : Int) then
              if (v0.getD v2.toNat 0 != v1.getD v2.toNat 0) = true then
                some ((), (false, ()))
              else
                w_laws_eqIntS_4 j X v0 v1 (IntKind.i64.wrap (v2 + 1))
            else
              none
          else
            none
        else
          none
      else
        none
    else
      some ((), (true, ())) := by kernel_rfl
end
noncomputable def F_laws_eqIntS : (List Int) × (List Int) × Unit → Option ((Unit) × Bool × Unit) := (sigOf Try.prog (w_laws_eqIntS_Γ) Try.f32 w_laws_eqIntS_cut w_laws_eqIntS_keep ps_laws_eqIntS rs_laws_eqIntS).F
theorem ok_laws_eqIntS : FnOk Try.prog 32 ⟨ps_laws_eqIntS, rs_laws_eqIntS, F_laws_eqIntS⟩ := sigOk (Γ := w_laws_eqIntS_Γ) (cut := w_laws_eqIntS_cut) (keep := w_laws_eqIntS_keep) tab_nil Try.func32 (by kernel_rfl) rfl
noncomputable def H_laws_eqIntS_4 (X : (List Int) × (List Int) × Unit) (v0 : List Int) (v1 : List Int) (v2 : Int) : Option ((Unit) × Bool × Unit) := lim fun j => w_laws_eqIntS_4 j X v0 v1 v2
theorem H_laws_eqIntS_4_eq (X : (List Int) × (List Int) × Unit) (v0 : List Int) (v1 : List Int) (v2 : Int) : H_laws_eqIntS_4 X v0 v1 v2 =
    if decide (v2 < (↑v0.length : Int)) = true then
      if 0 ≤ v2 then
        if v2 < (↑v0.length : Int) then
          if 0 ≤ v2 then
            if v2 < (↑v1.length : Int) then
              if (v0.getD v2.toNat 0 != v1.getD v2.toNat 0) = true then
                some ((), (false, ()))
              else
                H_laws_eqIntS_4 X v0 v1 (IntKind.i64.wrap (v2 + 1))
            else
              none
          else
            none
        else
          none
      else
        none
    else
      some ((), (true, ())) := by
  show lim (fun j => w_laws_eqIntS_4 j X v0 v1 v2) = _
  rw [lim_succ (G := fun j => w_laws_eqIntS_4 j X v0 v1 v2) (fun j r h => run_mono _ _ _ _ h)]
  simp only [w_laws_eqIntS_4_step, lim_ite, lim_bind, lim_const]
  all_goals rfl
theorem F_laws_eqIntS_eq (X : (List Int) × (List Int) × Unit) : F_laws_eqIntS X =
    if ((↑(List.length X.fst) : Int) != (↑(List.length X.snd.fst) : Int)) = true then
      some ((), (false, ()))
    else
      H_laws_eqIntS_4 X (X.fst) (X.snd.fst) 0 := by
  show lim (fun j => whole Try.prog (w_laws_eqIntS_Γ) Try.f32 w_laws_eqIntS_cut w_laws_eqIntS_keep ps_laws_eqIntS rs_laws_eqIntS j X) = _
  rw [lim_succ (fun j r h => whole_mono j r h)]
  simp only [w_laws_eqIntS_0, lim_ite, lim_bind, lim_const]
  all_goals rfl

/-! ### laws.eqLink -/
abbrev ps_laws_eqLink : List PK := [(.val true (.pair (.int .i64) (.pair (.int .i64) (.int .i64)))), (.val true (.pair (.int .i64) (.pair (.int .i64) (.int .i64))))]
abbrev rs_laws_eqLink : List RK := [(.own false .bool)]
section
abbrev w_laws_eqLink_keep : Nat → List Nat := kp []
abbrev w_laws_eqLink_cut : Nat → Bool := memC []
abbrev w_laws_eqLink_Γ : Nat → Option Sig := tab []
theorem w_laws_eqLink_0 (j : Nat) (X : dens ps_laws_eqLink) : whole Try.prog w_laws_eqLink_Γ Try.f83 w_laws_eqLink_cut w_laws_eqLink_keep ps_laws_eqLink rs_laws_eqLink (j + 1) X =
    if (X.fst.fst != X.snd.fst.fst) = true then
      some ((), (false, ()))
    else
      if (X.fst.snd.fst != X.snd.fst.snd.fst) = true then
        some ((), (false, ()))
      else
        if (X.fst.snd.snd != X.snd.fst.snd.snd) = true then
          some ((), (false, ()))
        else
          some ((), (true, ())) := by kernel_rfl
end
noncomputable def F_laws_eqLink : (Int × Int × Int) × (Int × Int × Int) × Unit → Option ((Unit) × Bool × Unit) := (sigOf Try.prog (w_laws_eqLink_Γ) Try.f83 w_laws_eqLink_cut w_laws_eqLink_keep ps_laws_eqLink rs_laws_eqLink).F
theorem ok_laws_eqLink : FnOk Try.prog 83 ⟨ps_laws_eqLink, rs_laws_eqLink, F_laws_eqLink⟩ := sigOk (Γ := w_laws_eqLink_Γ) (cut := w_laws_eqLink_cut) (keep := w_laws_eqLink_keep) tab_nil Try.func83 (by kernel_rfl) rfl
theorem F_laws_eqLink_eq (X : (Int × Int × Int) × (Int × Int × Int) × Unit) : F_laws_eqLink X =
    if (X.fst.fst != X.snd.fst.fst) = true then
      some ((), (false, ()))
    else
      if (X.fst.snd.fst != X.snd.fst.snd.fst) = true then
        some ((), (false, ()))
      else
        if (X.fst.snd.snd != X.snd.fst.snd.snd) = true then
          some ((), (false, ()))
        else
          some ((), (true, ())) := by
  show lim (fun j => whole Try.prog (w_laws_eqLink_Γ) Try.f83 w_laws_eqLink_cut w_laws_eqLink_keep ps_laws_eqLink rs_laws_eqLink j X) = _
  rw [lim_succ (fun j r h => whole_mono j r h)]
  simp only [w_laws_eqLink_0, lim_ite, lim_bind, lim_const]
  all_goals rfl

/-! ### laws.eqChannel -/
abbrev ps_laws_eqChannel : List PK := [(.val true (.pair (.pair (.int .i64) (.pair (.int .i64) (.int .i64))) (.pair (.sl 3 (.int .i64)) (.pair (.int .i64) .bool)))), (.val true (.pair (.pair (.int .i64) (.pair (.int .i64) (.int .i64))) (.pair (.sl 3 (.int .i64)) (.pair (.int .i64) .bool))))]
abbrev rs_laws_eqChannel : List RK := [(.own false .bool)]
section
variable (F_laws_eqIntS : dens ps_laws_eqIntS → Option (outs ps_laws_eqIntS × rdens rs_laws_eqIntS))
variable (F_laws_eqLink : dens ps_laws_eqLink → Option (outs ps_laws_eqLink × rdens rs_laws_eqLink))
abbrev w_laws_eqChannel_keep : Nat → List Nat := kp []
abbrev w_laws_eqChannel_cut : Nat → Bool := memC []
abbrev w_laws_eqChannel_Γ : Nat → Option Sig := tab [(32, ⟨ps_laws_eqIntS, rs_laws_eqIntS, F_laws_eqIntS⟩), (83, ⟨ps_laws_eqLink, rs_laws_eqLink, F_laws_eqLink⟩)]
theorem w_laws_eqChannel_0 (j : Nat) (X : dens ps_laws_eqChannel) : whole Try.prog (w_laws_eqChannel_Γ F_laws_eqIntS F_laws_eqLink) Try.f48 w_laws_eqChannel_cut w_laws_eqChannel_keep ps_laws_eqChannel rs_laws_eqChannel (j + 1) X =
    (F_laws_eqLink ((X.fst.fst), ((X.snd.fst.fst), ()))).bind fun r0 =>
      if (!r0.snd.fst) = true then
        some ((), (false, ()))
      else
        (F_laws_eqIntS ((X.fst.snd.fst), ((X.snd.fst.snd.fst), ()))).bind fun r1 =>
          if (!r1.snd.fst) = true then
            some ((), (false, ()))
          else
            if (X.fst.snd.snd.fst != X.snd.fst.snd.snd.fst) = true then
              some ((), (false, ()))
            else
              if (!X.fst.snd.snd.snd == X.snd.fst.snd.snd.snd) = true then
                some ((), (false, ()))
              else
                some ((), (true, ())) := by kernel_rfl
end
noncomputable def F_laws_eqChannel : ((Int × Int × Int) × (List Int) × Int × Bool) × ((Int × Int × Int) × (List Int) × Int × Bool) × Unit → Option ((Unit) × Bool × Unit) := (sigOf Try.prog (w_laws_eqChannel_Γ F_laws_eqIntS F_laws_eqLink) Try.f48 w_laws_eqChannel_cut w_laws_eqChannel_keep ps_laws_eqChannel rs_laws_eqChannel).F
theorem ok_laws_eqChannel : FnOk Try.prog 48 ⟨ps_laws_eqChannel, rs_laws_eqChannel, F_laws_eqChannel⟩ := sigOk (Γ := w_laws_eqChannel_Γ F_laws_eqIntS F_laws_eqLink) (cut := w_laws_eqChannel_cut) (keep := w_laws_eqChannel_keep) (tab_cons ok_laws_eqIntS (tab_cons ok_laws_eqLink tab_nil)) Try.func48 (by kernel_rfl) rfl
theorem F_laws_eqChannel_eq (X : ((Int × Int × Int) × (List Int) × Int × Bool) × ((Int × Int × Int) × (List Int) × Int × Bool) × Unit) : F_laws_eqChannel X =
    (F_laws_eqLink ((X.fst.fst), ((X.snd.fst.fst), ()))).bind fun r0 =>
      if (!r0.snd.fst) = true then
        some ((), (false, ()))
      else
        (F_laws_eqIntS ((X.fst.snd.fst), ((X.snd.fst.snd.fst), ()))).bind fun r1 =>
          if (!r1.snd.fst) = true then
            some ((), (false, ()))
          else
            if (X.fst.snd.snd.fst != X.snd.fst.snd.snd.fst) = true then
              some ((), (false, ()))
            else
              if (!X.fst.snd.snd.snd == X.snd.fst.snd.snd.snd) = true then
                some ((), (false, ()))
              else
                some ((), (true, ())) := by
  show lim (fun j => whole Try.prog (w_laws_eqChannel_Γ F_laws_eqIntS F_laws_eqLink) Try.f48 w_laws_eqChannel_cut w_laws_eqChannel_keep ps_laws_eqChannel rs_laws_eqChannel j X) = _
  rw [lim_succ (fun j r h => whole_mono j r h)]
  simp only [w_laws_eqChannel_0, lim_ite, lim_bind, lim_const]
  all_goals rfl

/-! ### spec.l01In -/
abbrev ps_spec_l01In : List PK := [(.val false (.int .i64)), (.val false (.int .i64)), (.val false (.int .i64))]
abbrev rs_spec_l01In : List RK := [(.own false .bool)]
section
abbrev w_spec_l01In_keep : Nat → List Nat := kp []
abbrev w_spec_l01In_cut : Nat → Bool := memC []
abbrev w_spec_l01In_Γ : Nat → Option Sig := tab []
theorem w_spec_l01In_0 (j : Nat) (X : dens ps_spec_l01In) : whole Try.prog w_spec_l01In_Γ Try.f63 w_spec_l01In_cut w_spec_l01In_keep ps_spec_l01In rs_spec_l01In (j + 1) X =
    if decide (X.fst ≥ X.snd.fst) = true then
      some ((), ((decide (X.fst ≤ X.snd.snd.fst)), ()))
    else
      some ((), (false, ())) := by kernel_rfl
end
noncomputable def F_spec_l01In : Int × Int × Int × Unit → Option ((Unit) × Bool × Unit) := (sigOf Try.prog (w_spec_l01In_Γ) Try.f63 w_spec_l01In_cut w_spec_l01In_keep ps_spec_l01In rs_spec_l01In).F
theorem ok_spec_l01In : FnOk Try.prog 63 ⟨ps_spec_l01In, rs_spec_l01In, F_spec_l01In⟩ := sigOk (Γ := w_spec_l01In_Γ) (cut := w_spec_l01In_cut) (keep := w_spec_l01In_keep) tab_nil Try.func63 (by kernel_rfl) rfl
theorem F_spec_l01In_eq (X : Int × Int × Int × Unit) : F_spec_l01In X =
    if decide (X.fst ≥ X.snd.fst) = true then
      some ((), ((decide (X.fst ≤ X.snd.snd.fst)), ()))
    else
      some ((), (false, ())) := by
  show lim (fun j => whole Try.prog (w_spec_l01In_Γ) Try.f63 w_spec_l01In_cut w_spec_l01In_keep ps_spec_l01In rs_spec_l01In j X) = _
  rw [lim_succ (fun j r h => whole_mono j r h)]
  simp only [w_spec_l01In_0, lim_ite, lim_bind, lim_const]
  all_goals rfl

/-! ### spec.LaneCountOk -/
abbrev ps_spec_LaneCountOk : List PK := [(.val false (.int .i64))]
abbrev rs_spec_LaneCountOk : List RK := [(.own false .bool)]
section
abbrev w_spec_LaneCountOk_keep : Nat → List Nat := kp []
abbrev w_spec_LaneCountOk_cut : Nat → Bool := memC []
abbrev w_spec_LaneCountOk_Γ : Nat → Option Sig := tab []
theorem w_spec_LaneCountOk_0 (j : Nat) (X : dens ps_spec_LaneCountOk) : whole Try.prog w_spec_LaneCountOk_Γ Try.f97 w_spec_LaneCountOk_cut w_spec_LaneCountOk_keep ps_spec_LaneCountOk rs_spec_LaneCountOk (j + 1) X =
    if (X.fst == 1) = true then
      some ((), (true, ()))
    else
      if (X.fst == 2) = true then
        some ((), (true, ()))
      else
        some ((), ((X.fst == 4), ())) := by kernel_rfl
end
noncomputable def F_spec_LaneCountOk : Int × Unit → Option ((Unit) × Bool × Unit) := (sigOf Try.prog (w_spec_LaneCountOk_Γ) Try.f97 w_spec_LaneCountOk_cut w_spec_LaneCountOk_keep ps_spec_LaneCountOk rs_spec_LaneCountOk).F
theorem ok_spec_LaneCountOk : FnOk Try.prog 97 ⟨ps_spec_LaneCountOk, rs_spec_LaneCountOk, F_spec_LaneCountOk⟩ := sigOk (Γ := w_spec_LaneCountOk_Γ) (cut := w_spec_LaneCountOk_cut) (keep := w_spec_LaneCountOk_keep) tab_nil Try.func97 (by kernel_rfl) rfl
theorem F_spec_LaneCountOk_eq (X : Int × Unit) : F_spec_LaneCountOk X =
    if (X.fst == 1) = true then
      some ((), (true, ()))
    else
      if (X.fst == 2) = true then
        some ((), (true, ()))
      else
        some ((), ((X.fst == 4), ())) := by
  show lim (fun j => whole Try.prog (w_spec_LaneCountOk_Γ) Try.f97 w_spec_LaneCountOk_cut w_spec_LaneCountOk_keep ps_spec_LaneCountOk rs_spec_LaneCountOk j X) = _
  rw [lim_succ (fun j r h => whole_mono j r h)]
  simp only [w_spec_LaneCountOk_0, lim_ite, lim_bind, lim_const]
  all_goals rfl

/-! ### spec.LinkOk -/
abbrev ps_spec_LinkOk : List PK := [(.val true (.pair (.int .i64) (.pair (.int .i64) (.int .i64))))]
abbrev rs_spec_LinkOk : List RK := [(.own false .bool)]
section
variable (F_spec_l01In : dens ps_spec_l01In → Option (outs ps_spec_l01In × rdens rs_spec_l01In))
variable (F_spec_LaneCountOk : dens ps_spec_LaneCountOk → Option (outs ps_spec_LaneCountOk × rdens rs_spec_LaneCountOk))
abbrev w_spec_LinkOk_keep : Nat → List Nat := kp []
abbrev w_spec_LinkOk_cut : Nat → Bool := memC []
abbrev w_spec_LinkOk_Γ : Nat → Option Sig := tab [(63, ⟨ps_spec_l01In, rs_spec_l01In, F_spec_l01In⟩), (97, ⟨ps_spec_LaneCountOk, rs_spec_LaneCountOk, F_spec_LaneCountOk⟩)]
theorem w_spec_LinkOk_0 (j : Nat) (X : dens ps_spec_LinkOk) : whole Try.prog (w_spec_LinkOk_Γ F_spec_l01In F_spec_LaneCountOk) Try.f78 w_spec_LinkOk_cut w_spec_LinkOk_keep ps_spec_LinkOk rs_spec_LinkOk (j + 1) X =
    (F_spec_LaneCountOk ((X.fst.fst), ())).bind fun r0 =>
      if r0.snd.fst = true then
        (F_spec_l01In ((X.fst.snd.fst), (1, (4, ())))).bind fun r1 =>
          if r1.snd.fst = true then
            (F_spec_l01In ((X.fst.snd.snd), (0, (3, ())))).bind fun r2 =>
              some ((), ((r2.snd.fst), ()))
          else
            some ((), (false, ()))
      else
        some ((), (false, ())) := by kernel_rfl
end
noncomputable def F_spec_LinkOk : (Int × Int × Int) × Unit → Option ((Unit) × Bool × Unit) := (sigOf Try.prog (w_spec_LinkOk_Γ F_spec_l01In F_spec_LaneCountOk) Try.f78 w_spec_LinkOk_cut w_spec_LinkOk_keep ps_spec_LinkOk rs_spec_LinkOk).F
theorem ok_spec_LinkOk : FnOk Try.prog 78 ⟨ps_spec_LinkOk, rs_spec_LinkOk, F_spec_LinkOk⟩ := sigOk (Γ := w_spec_LinkOk_Γ F_spec_l01In F_spec_LaneCountOk) (cut := w_spec_LinkOk_cut) (keep := w_spec_LinkOk_keep) (tab_cons ok_spec_l01In (tab_cons ok_spec_LaneCountOk tab_nil)) Try.func78 (by kernel_rfl) rfl
theorem F_spec_LinkOk_eq (X : (Int × Int × Int) × Unit) : F_spec_LinkOk X =
    (F_spec_LaneCountOk ((X.fst.fst), ())).bind fun r0 =>
      if r0.snd.fst = true then
        (F_spec_l01In ((X.fst.snd.fst), (1, (4, ())))).bind fun r1 =>
          if r1.snd.fst = true then
            (F_spec_l01In ((X.fst.snd.snd), (0, (3, ())))).bind fun r2 =>
              some ((), ((r2.snd.fst), ()))
          else
            some ((), (false, ()))
      else
        some ((), (false, ())) := by
  show lim (fun j => whole Try.prog (w_spec_LinkOk_Γ F_spec_l01In F_spec_LaneCountOk) Try.f78 w_spec_LinkOk_cut w_spec_LinkOk_keep ps_spec_LinkOk rs_spec_LinkOk j X) = _
  rw [lim_succ (fun j r h => whole_mono j r h)]
  simp only [w_spec_LinkOk_0, lim_ite, lim_bind, lim_const]
  all_goals rfl

/-! ### spec.ChannelOk -/
abbrev ps_spec_ChannelOk : List PK := [(.val true (.pair (.pair (.int .i64) (.pair (.int .i64) (.int .i64))) (.pair (.sl 3 (.int .i64)) (.pair (.int .i64) .bool))))]
abbrev rs_spec_ChannelOk : List RK := [(.own false .bool)]
section
variable (F_spec_l01In : dens ps_spec_l01In → Option (outs ps_spec_l01In × rdens rs_spec_l01In))
variable (F_spec_LinkOk : dens ps_spec_LinkOk → Option (outs ps_spec_LinkOk × rdens rs_spec_LinkOk))
abbrev w_spec_ChannelOk_keep : Nat → List Nat := kp [(4, [1, 3])]
abbrev w_spec_ChannelOk_cut : Nat → Bool := memC []
abbrev w_spec_ChannelOk_Γ : Nat → Option Sig := tab [(63, ⟨ps_spec_l01In, rs_spec_l01In, F_spec_l01In⟩), (78, ⟨ps_spec_LinkOk, rs_spec_LinkOk, F_spec_LinkOk⟩)]
noncomputable def w_spec_ChannelOk_4 (j : Nat) (X : dens ps_spec_ChannelOk) (v0 : Int) (v1 : Int) (v2 : Int) (v3 : Int) (v4 : List (Ty.den (.int .i64))) (v5 : Int) (v6 : Bool) : Option (outs ps_spec_ChannelOk × rdens rs_spec_ChannelOk) := run Try.prog (w_spec_ChannelOk_Γ F_spec_l01In F_spec_LinkOk) (fin Try.prog Try.f45 ps_spec_ChannelOk rs_spec_ChannelOk X) w_spec_ChannelOk_cut (resvP ps_spec_ChannelOk X startN) w_spec_ChannelOk_keep j (headTodo 4 (bodyOf Try.f45))
  ⟨sparse 37 0 [(1, (.c (.ptr 19300000 0))), (3, (.c (.int .i64 v0)))], [(19300000, (.cells 62 [(.int .i64 v1), (.int .i64 v2), (.int .i64 v3), (.bor 3 (.int .i64) v4), (.int .i64 v5), (.bool v6)]))]⟩
theorem w_spec_ChannelOk_0 (j : Nat) (X : dens ps_spec_ChannelOk) : whole Try.prog (w_spec_ChannelOk_Γ F_spec_l01In F_spec_LinkOk) Try.f45 w_spec_ChannelOk_cut w_spec_ChannelOk_keep ps_spec_ChannelOk rs_spec_ChannelOk (j + 1) X =
    (F_spec_LinkOk ((X.fst.fst), ())).bind fun r0 =>
      if (!r0.snd.fst) = true then
        some ((), (false, ()))
      else
        if ((↑(List.length X.fst.snd.fst) : Int) != X.fst.fst.fst) = true then
          some ((), (false, ()))
        else
          (F_spec_l01In ((X.fst.snd.snd.fst), (0, (2147483647, ())))).bind fun r1 =>
            if (!r1.snd.fst) = true then
              some ((), (false, ()))
            else
              w_spec_ChannelOk_4 F_spec_l01In F_spec_LinkOk j X 0 (X.fst.fst.fst) (X.fst.fst.snd.fst) (X.fst.fst.snd.snd) (X.fst.snd.fst) (X.fst.snd.snd.fst) (X.fst.snd.snd.snd) := by kernel_rfl
theorem w_spec_ChannelOk_4_step (j : Nat) (X : dens ps_spec_ChannelOk) (v0 : Int) (v1 : Int) (v2 : Int) (v3 : Int) (v4 : List (Ty.den (.int .i64))) (v5 : Int) (v6 : Bool) : w_spec_ChannelOk_4 F_spec_l01In F_spec_LinkOk (j + 1) X v0 v1 v2 v3 v4 v5 v6 =
    if decide (v0 < (↑v4.length : Int)) = true then
      if 0 ≤ v0 then
        if v0 < (↑v4.length : Int) then
          (F_spec_l01In ((v4.getD v0.toNat 0), (0, (8, ())))).bind fun r0 =>
            if (!r0.snd.fst) = true then
              some ((), (false, ()))
            else
              w_spec_ChannelOk_4 F_spec_l01In F_spec_LinkOk j X (IntKind.i64.wrap (v0 + 1)) v1 v2 v3 v4 v5 v6
        else
          none
      else
        none
    else
      some ((), (true, ())) := by kernel_rfl
end
noncomputable def F_spec_ChannelOk : ((Int × Int × Int) × (List Int) × Int × Bool) × Unit → Option ((Unit) × Bool × Unit) := (sigOf Try.prog (w_spec_ChannelOk_Γ F_spec_l01In F_spec_LinkOk) Try.f45 w_spec_ChannelOk_cut w_spec_ChannelOk_keep ps_spec_ChannelOk rs_spec_ChannelOk).F
theorem ok_spec_ChannelOk : FnOk Try.prog 45 ⟨ps_spec_ChannelOk, rs_spec_ChannelOk, F_spec_ChannelOk⟩ := sigOk (Γ := w_spec_ChannelOk_Γ F_spec_l01In F_spec_LinkOk) (cut := w_spec_ChannelOk_cut) (keep := w_spec_ChannelOk_keep) (tab_cons ok_spec_l01In (tab_cons ok_spec_LinkOk tab_nil)) Try.func45 (by kernel_rfl) rfl
noncomputable def H_spec_ChannelOk_4 (X : ((Int × Int × Int) × (List Int) × Int × Bool) × Unit) (v0 : Int) (v1 : Int) (v2 : Int) (v3 : Int) (v4 : List Int) (v5 : Int) (v6 : Bool) : Option ((Unit) × Bool × Unit) := lim fun j => w_spec_ChannelOk_4 F_spec_l01In F_spec_LinkOk j X v0 v1 v2 v3 v4 v5 v6
theorem H_spec_ChannelOk_4_eq (X : ((Int × Int × Int) × (List Int) × Int × Bool) × Unit) (v0 : Int) (v1 : Int) (v2 : Int) (v3 : Int) (v4 : List Int) (v5 : Int) (v6 : Bool) : H_spec_ChannelOk_4 X v0 v1 v2 v3 v4 v5 v6 =
    if decide (v0 < (↑v4.length : Int)) = true then
      if 0 ≤ v0 then
        if v0 < (↑v4.length : Int) then
          (F_spec_l01In ((v4.getD v0.toNat 0), (0, (8, ())))).bind fun r0 =>
            if (!r0.snd.fst) = true then
              some ((), (false, ()))
            else
              H_spec_ChannelOk_4 X (IntKind.i64.wrap (v0 + 1)) v1 v2 v3 v4 v5 v6
        else
          none
      else
        none
    else
      some ((), (true, ())) := by
  show lim (fun j => w_spec_ChannelOk_4 F_spec_l01In F_spec_LinkOk j X v0 v1 v2 v3 v4 v5 v6) = _
  rw [lim_succ (G := fun j => w_spec_ChannelOk_4 F_spec_l01In F_spec_LinkOk j X v0 v1 v2 v3 v4 v5 v6) (fun j r h => run_mono _ _ _ _ h)]
  simp only [w_spec_ChannelOk_4_step, lim_ite, lim_bind, lim_const]
  all_goals rfl
theorem F_spec_ChannelOk_eq (X : ((Int × Int × Int) × (List Int) × Int × Bool) × Unit) : F_spec_ChannelOk X =
    (F_spec_LinkOk ((X.fst.fst), ())).bind fun r0 =>
      if (!r0.snd.fst) = true then
        some ((), (false, ()))
      else
        if ((↑(List.length X.fst.snd.fst) : Int) != X.fst.fst.fst) = true then
          some ((), (false, ()))
        else
          (F_spec_l01In ((X.fst.snd.snd.fst), (0, (2147483647, ())))).bind fun r1 =>
            if (!r1.snd.fst) = true then
              some ((), (false, ()))
            else
              H_spec_ChannelOk_4 X 0 (X.fst.fst.fst) (X.fst.fst.snd.fst) (X.fst.fst.snd.snd) (X.fst.snd.fst) (X.fst.snd.snd.fst) (X.fst.snd.snd.snd) := by
  show lim (fun j => whole Try.prog (w_spec_ChannelOk_Γ F_spec_l01In F_spec_LinkOk) Try.f45 w_spec_ChannelOk_cut w_spec_ChannelOk_keep ps_spec_ChannelOk rs_spec_ChannelOk j X) = _
  rw [lim_succ (fun j r h => whole_mono j r h)]
  simp only [w_spec_ChannelOk_0, lim_ite, lim_bind, lim_const]
  all_goals rfl

/-! ### spec.SymbolsFor -/
abbrev ps_spec_SymbolsFor : List PK := [(.val false (.int .i64))]
abbrev rs_spec_SymbolsFor : List RK := [(.own false (.int .i64))]
section
variable (F_spec_l01In : dens ps_spec_l01In → Option (outs ps_spec_l01In × rdens rs_spec_l01In))
abbrev w_spec_SymbolsFor_keep : Nat → List Nat := kp []
abbrev w_spec_SymbolsFor_cut : Nat → Bool := memC []
abbrev w_spec_SymbolsFor_Γ : Nat → Option Sig := tab [(63, ⟨ps_spec_l01In, rs_spec_l01In, F_spec_l01In⟩)]
theorem w_spec_SymbolsFor_0 (j : Nat) (X : dens ps_spec_SymbolsFor) : whole Try.prog (w_spec_SymbolsFor_Γ F_spec_l01In) Try.f85 w_spec_SymbolsFor_cut w_spec_SymbolsFor_keep ps_spec_SymbolsFor rs_spec_SymbolsFor (j + 1) X =
    (F_spec_l01In ((X.fst), (0, (16, ())))).bind fun r0 =>
      if (!r0.snd.fst) = true then
        some ((), ((Int.negSucc 0), ()))
      else
        some ((), ((IntKind.i64.wrap (IntKind.i64.wrap ((IntKind.i64.wrap (IntKind.i64.wrap (IntKind.i64.wrap (7 + IntKind.i64.wrap (5 * X.fst)) + 13) - 1)).tdiv 13) * 15)), ())) := by kernel_rfl
end
noncomputable def F_spec_SymbolsFor : Int × Unit → Option ((Unit) × Int × Unit) := (sigOf Try.prog (w_spec_SymbolsFor_Γ F_spec_l01In) Try.f85 w_spec_SymbolsFor_cut w_spec_SymbolsFor_keep ps_spec_SymbolsFor rs_spec_SymbolsFor).F
theorem ok_spec_SymbolsFor : FnOk Try.prog 85 ⟨ps_spec_SymbolsFor, rs_spec_SymbolsFor, F_spec_SymbolsFor⟩ := sigOk (Γ := w_spec_SymbolsFor_Γ F_spec_l01In) (cut := w_spec_SymbolsFor_cut) (keep := w_spec_SymbolsFor_keep) (tab_cons ok_spec_l01In tab_nil) Try.func85 (by kernel_rfl) rfl
theorem F_spec_SymbolsFor_eq (X : Int × Unit) : F_spec_SymbolsFor X =
    (F_spec_l01In ((X.fst), (0, (16, ())))).bind fun r0 =>
      if (!r0.snd.fst) = true then
        some ((), ((Int.negSucc 0), ()))
      else
        some ((), ((IntKind.i64.wrap (IntKind.i64.wrap ((IntKind.i64.wrap (IntKind.i64.wrap (IntKind.i64.wrap (7 + IntKind.i64.wrap (5 * X.fst)) + 13) - 1)).tdiv 13) * 15)), ())) := by
  show lim (fun j => whole Try.prog (w_spec_SymbolsFor_Γ F_spec_l01In) Try.f85 w_spec_SymbolsFor_cut w_spec_SymbolsFor_keep ps_spec_SymbolsFor rs_spec_SymbolsFor j X) = _
  rw [lim_succ (fun j r h => whole_mono j r h)]
  simp only [w_spec_SymbolsFor_0, lim_ite, lim_bind, lim_const]
  all_goals rfl

/-! ### spec.WireLength -/
abbrev ps_spec_WireLength : List PK := [(.val true (.pair (.pair (.int .i64) (.pair (.int .i64) (.int .i64))) (.pair (.sl 3 (.int .i64)) (.pair (.int .i64) .bool)))), (.val false (.int .i64))]
abbrev rs_spec_WireLength : List RK := [(.own false (.int .i64))]
section
variable (F_spec_ChannelOk : dens ps_spec_ChannelOk → Option (outs ps_spec_ChannelOk × rdens rs_spec_ChannelOk))
variable (F_spec_SymbolsFor : dens ps_spec_SymbolsFor → Option (outs ps_spec_SymbolsFor × rdens rs_spec_SymbolsFor))
abbrev w_spec_WireLength_keep : Nat → List Nat := kp [(6, [2, 5, 6, 7])]
abbrev w_spec_WireLength_cut : Nat → Bool := memC []
abbrev w_spec_WireLength_Γ : Nat → Option Sig := tab [(45, ⟨ps_spec_ChannelOk, rs_spec_ChannelOk, F_spec_ChannelOk⟩), (85, ⟨ps_spec_SymbolsFor, rs_spec_SymbolsFor, F_spec_SymbolsFor⟩)]
noncomputable def w_spec_WireLength_6 (j : Nat) (X : dens ps_spec_WireLength) (v0 : Int) (v1 : Int) (v2 : Int) (v3 : Int) (v4 : Int) (v5 : Int) (v6 : List (Ty.den (.int .i64))) (v7 : Int) (v8 : Bool) : Option (outs ps_spec_WireLength × rdens rs_spec_WireLength) := run Try.prog (w_spec_WireLength_Γ F_spec_ChannelOk F_spec_SymbolsFor) (fin Try.prog Try.f61 ps_spec_WireLength rs_spec_WireLength X) w_spec_WireLength_cut (resvP ps_spec_WireLength X startN) w_spec_WireLength_keep j (headTodo 6 (bodyOf Try.f61))
  ⟨sparse 44 0 [(2, (.c (.ptr 19300000 0))), (5, (.c (.int .i64 v0))), (6, (.c (.int .i64 v1))), (7, (.c (.int .i64 v2)))], [(19300000, (.cells 62 [(.int .i64 v3), (.int .i64 v4), (.int .i64 v5), (.bor 3 (.int .i64) v6), (.int .i64 v7), (.bool v8)]))]⟩
theorem w_spec_WireLength_0 (j : Nat) (X : dens ps_spec_WireLength) : whole Try.prog (w_spec_WireLength_Γ F_spec_ChannelOk F_spec_SymbolsFor) Try.f61 w_spec_WireLength_cut w_spec_WireLength_keep ps_spec_WireLength rs_spec_WireLength (j + 1) X =
    (F_spec_SymbolsFor ((X.snd.fst), ())).bind fun r0 =>
      (F_spec_ChannelOk ((X.fst), ())).bind fun r1 =>
        if (!r1.snd.fst) = true then
          some ((), ((Int.negSucc 0), ()))
        else
          if decide (r0.snd.fst < 0) = true then
            some ((), ((Int.negSucc 0), ()))
          else
            w_spec_WireLength_6 F_spec_ChannelOk F_spec_SymbolsFor j X (r0.snd.fst) 0 0 (X.fst.fst.fst) (X.fst.fst.snd.fst) (X.fst.fst.snd.snd) (X.fst.snd.fst) (X.fst.snd.snd.fst) (X.fst.snd.snd.snd) := by kernel_rfl
theorem w_spec_WireLength_6_step (j : Nat) (X : dens ps_spec_WireLength) (v0 : Int) (v1 : Int) (v2 : Int) (v3 : Int) (v4 : Int) (v5 : Int) (v6 : List (Ty.den (.int .i64))) (v7 : Int) (v8 : Bool) : w_spec_WireLength_6 F_spec_ChannelOk F_spec_SymbolsFor (j + 1) X v0 v1 v2 v3 v4 v5 v6 v7 v8 =
    if decide (v2 < (↑v6.length : Int)) = true then
      if 0 ≤ v2 then
        if v2 < (↑v6.length : Int) then
          w_spec_WireLength_6 F_spec_ChannelOk F_spec_SymbolsFor j X v0 (List.foldl mx2 v1 [v6.getD v2.toNat 0]) (IntKind.i64.wrap (v2 + 1)) v3 v4 v5 v6 v7 v8
        else
          none
      else
        none
    else
      if v3 = 0 then
        none
      else
        some ((), ((IntKind.i64.wrap (IntKind.i64.wrap (v1 + 1) + IntKind.i64.wrap ((IntKind.i64.wrap (IntKind.i64.wrap (v0 + v3) - 1)).tdiv v3))), ())) := by kernel_rfl
end
noncomputable def F_spec_WireLength : ((Int × Int × Int) × (List Int) × Int × Bool) × Int × Unit → Option ((Unit) × Int × Unit) := (sigOf Try.prog (w_spec_WireLength_Γ F_spec_ChannelOk F_spec_SymbolsFor) Try.f61 w_spec_WireLength_cut w_spec_WireLength_keep ps_spec_WireLength rs_spec_WireLength).F
theorem ok_spec_WireLength : FnOk Try.prog 61 ⟨ps_spec_WireLength, rs_spec_WireLength, F_spec_WireLength⟩ := sigOk (Γ := w_spec_WireLength_Γ F_spec_ChannelOk F_spec_SymbolsFor) (cut := w_spec_WireLength_cut) (keep := w_spec_WireLength_keep) (tab_cons ok_spec_ChannelOk (tab_cons ok_spec_SymbolsFor tab_nil)) Try.func61 (by kernel_rfl) rfl
noncomputable def H_spec_WireLength_6 (X : ((Int × Int × Int) × (List Int) × Int × Bool) × Int × Unit) (v0 : Int) (v1 : Int) (v2 : Int) (v3 : Int) (v4 : Int) (v5 : Int) (v6 : List Int) (v7 : Int) (v8 : Bool) : Option ((Unit) × Int × Unit) := lim fun j => w_spec_WireLength_6 F_spec_ChannelOk F_spec_SymbolsFor j X v0 v1 v2 v3 v4 v5 v6 v7 v8
theorem H_spec_WireLength_6_eq (X : ((Int × Int × Int) × (List Int) × Int × Bool) × Int × Unit) (v0 : Int) (v1 : Int) (v2 : Int) (v3 : Int) (v4 : Int) (v5 : Int) (v6 : List Int) (v7 : Int) (v8 : Bool) : H_spec_WireLength_6 X v0 v1 v2 v3 v4 v5 v6 v7 v8 =
    if decide (v2 < (↑v6.length : Int)) = true then
      if 0 ≤ v2 then
        if v2 < (↑v6.length : Int) then
          H_spec_WireLength_6 X v0 (List.foldl mx2 v1 [v6.getD v2.toNat 0]) (IntKind.i64.wrap (v2 + 1)) v3 v4 v5 v6 v7 v8
        else
          none
      else
        none
    else
      if v3 = 0 then
        none
      else
        some ((), ((IntKind.i64.wrap (IntKind.i64.wrap (v1 + 1) + IntKind.i64.wrap ((IntKind.i64.wrap (IntKind.i64.wrap (v0 + v3) - 1)).tdiv v3))), ())) := by
  show lim (fun j => w_spec_WireLength_6 F_spec_ChannelOk F_spec_SymbolsFor j X v0 v1 v2 v3 v4 v5 v6 v7 v8) = _
  rw [lim_succ (G := fun j => w_spec_WireLength_6 F_spec_ChannelOk F_spec_SymbolsFor j X v0 v1 v2 v3 v4 v5 v6 v7 v8) (fun j r h => run_mono _ _ _ _ h)]
  simp only [w_spec_WireLength_6_step, lim_ite, lim_bind, lim_const]
  all_goals rfl
theorem F_spec_WireLength_eq (X : ((Int × Int × Int) × (List Int) × Int × Bool) × Int × Unit) : F_spec_WireLength X =
    (F_spec_SymbolsFor ((X.snd.fst), ())).bind fun r0 =>
      (F_spec_ChannelOk ((X.fst), ())).bind fun r1 =>
        if (!r1.snd.fst) = true then
          some ((), ((Int.negSucc 0), ()))
        else
          if decide (r0.snd.fst < 0) = true then
            some ((), ((Int.negSucc 0), ()))
          else
            H_spec_WireLength_6 X (r0.snd.fst) 0 0 (X.fst.fst.fst) (X.fst.fst.snd.fst) (X.fst.fst.snd.snd) (X.fst.snd.fst) (X.fst.snd.snd.fst) (X.fst.snd.snd.snd) := by
  show lim (fun j => whole Try.prog (w_spec_WireLength_Γ F_spec_ChannelOk F_spec_SymbolsFor) Try.f61 w_spec_WireLength_cut w_spec_WireLength_keep ps_spec_WireLength rs_spec_WireLength j X) = _
  rw [lim_succ (fun j r h => whole_mono j r h)]
  simp only [w_spec_WireLength_0, lim_ite, lim_bind, lim_const]
  all_goals rfl

/-! ### impl.within -/
abbrev ps_impl_within : List PK := [(.val false (.int .i64)), (.val false (.int .i64)), (.val false (.int .i64))]
abbrev rs_impl_within : List RK := [(.own false .bool)]
section
abbrev w_impl_within_keep : Nat → List Nat := kp []
abbrev w_impl_within_cut : Nat → Bool := memC []
abbrev w_impl_within_Γ : Nat → Option Sig := tab []
theorem w_impl_within_0 (j : Nat) (X : dens ps_impl_within) : whole Try.prog w_impl_within_Γ Try.f64 w_impl_within_cut w_impl_within_keep ps_impl_within rs_impl_within (j + 1) X =
    if decide (X.snd.fst ≤ X.fst) = true then
      some ((), ((decide (X.fst ≤ X.snd.snd.fst)), ()))
    else
      some ((), (false, ())) := by kernel_rfl
end
noncomputable def F_impl_within : Int × Int × Int × Unit → Option ((Unit) × Bool × Unit) := (sigOf Try.prog (w_impl_within_Γ) Try.f64 w_impl_within_cut w_impl_within_keep ps_impl_within rs_impl_within).F
theorem ok_impl_within : FnOk Try.prog 64 ⟨ps_impl_within, rs_impl_within, F_impl_within⟩ := sigOk (Γ := w_impl_within_Γ) (cut := w_impl_within_cut) (keep := w_impl_within_keep) tab_nil Try.func64 (by kernel_rfl) rfl
theorem F_impl_within_eq (X : Int × Int × Int × Unit) : F_impl_within X =
    if decide (X.snd.fst ≤ X.fst) = true then
      some ((), ((decide (X.fst ≤ X.snd.snd.fst)), ()))
    else
      some ((), (false, ())) := by
  show lim (fun j => whole Try.prog (w_impl_within_Γ) Try.f64 w_impl_within_cut w_impl_within_keep ps_impl_within rs_impl_within j X) = _
  rw [lim_succ (fun j r h => whole_mono j r h)]
  simp only [w_impl_within_0, lim_ite, lim_bind, lim_const]
  all_goals rfl

/-! ### impl.LaneCountOk -/
abbrev ps_impl_LaneCountOk : List PK := [(.val false (.int .i64))]
abbrev rs_impl_LaneCountOk : List RK := [(.own false .bool)]
section
abbrev w_impl_LaneCountOk_keep : Nat → List Nat := kp []
abbrev w_impl_LaneCountOk_cut : Nat → Bool := memC []
abbrev w_impl_LaneCountOk_Γ : Nat → Option Sig := tab []
theorem w_impl_LaneCountOk_0 (j : Nat) (X : dens ps_impl_LaneCountOk) : whole Try.prog w_impl_LaneCountOk_Γ Try.f98 w_impl_LaneCountOk_cut w_impl_LaneCountOk_keep ps_impl_LaneCountOk rs_impl_LaneCountOk (j + 1) X =
    if (X.fst == 1) = true then
      some ((), (true, ()))
    else
      if (X.fst == 2) = true then
        some ((), (true, ()))
      else
        some ((), ((X.fst == 4), ())) := by kernel_rfl
end
noncomputable def F_impl_LaneCountOk : Int × Unit → Option ((Unit) × Bool × Unit) := (sigOf Try.prog (w_impl_LaneCountOk_Γ) Try.f98 w_impl_LaneCountOk_cut w_impl_LaneCountOk_keep ps_impl_LaneCountOk rs_impl_LaneCountOk).F
theorem ok_impl_LaneCountOk : FnOk Try.prog 98 ⟨ps_impl_LaneCountOk, rs_impl_LaneCountOk, F_impl_LaneCountOk⟩ := sigOk (Γ := w_impl_LaneCountOk_Γ) (cut := w_impl_LaneCountOk_cut) (keep := w_impl_LaneCountOk_keep) tab_nil Try.func98 (by kernel_rfl) rfl
theorem F_impl_LaneCountOk_eq (X : Int × Unit) : F_impl_LaneCountOk X =
    if (X.fst == 1) = true then
      some ((), (true, ()))
    else
      if (X.fst == 2) = true then
        some ((), (true, ()))
      else
        some ((), ((X.fst == 4), ())) := by
  show lim (fun j => whole Try.prog (w_impl_LaneCountOk_Γ) Try.f98 w_impl_LaneCountOk_cut w_impl_LaneCountOk_keep ps_impl_LaneCountOk rs_impl_LaneCountOk j X) = _
  rw [lim_succ (fun j r h => whole_mono j r h)]
  simp only [w_impl_LaneCountOk_0, lim_ite, lim_bind, lim_const]
  all_goals rfl

/-! ### impl.LinkOk -/
abbrev ps_impl_LinkOk : List PK := [(.val true (.pair (.int .i64) (.pair (.int .i64) (.int .i64))))]
abbrev rs_impl_LinkOk : List RK := [(.own false .bool)]
section
variable (F_impl_within : dens ps_impl_within → Option (outs ps_impl_within × rdens rs_impl_within))
variable (F_impl_LaneCountOk : dens ps_impl_LaneCountOk → Option (outs ps_impl_LaneCountOk × rdens rs_impl_LaneCountOk))
abbrev w_impl_LinkOk_keep : Nat → List Nat := kp []
abbrev w_impl_LinkOk_cut : Nat → Bool := memC []
abbrev w_impl_LinkOk_Γ : Nat → Option Sig := tab [(64, ⟨ps_impl_within, rs_impl_within, F_impl_within⟩), (98, ⟨ps_impl_LaneCountOk, rs_impl_LaneCountOk, F_impl_LaneCountOk⟩)]
theorem w_impl_LinkOk_0 (j : Nat) (X : dens ps_impl_LinkOk) : whole Try.prog (w_impl_LinkOk_Γ F_impl_within F_impl_LaneCountOk) Try.f80 w_impl_LinkOk_cut w_impl_LinkOk_keep ps_impl_LinkOk rs_impl_LinkOk (j + 1) X =
    (F_impl_LaneCountOk ((X.fst.fst), ())).bind fun r0 =>
      if r0.snd.fst = true then
        (F_impl_within ((X.fst.snd.fst), (1, (4, ())))).bind fun r1 =>
          if r1.snd.fst = true then
            (F_impl_within ((X.fst.snd.snd), (0, (3, ())))).bind fun r2 =>
              some ((), ((r2.snd.fst), ()))
          else
            some ((), (false, ()))
      else
        some ((), (false, ())) := by kernel_rfl
end
noncomputable def F_impl_LinkOk : (Int × Int × Int) × Unit → Option ((Unit) × Bool × Unit) := (sigOf Try.prog (w_impl_LinkOk_Γ F_impl_within F_impl_LaneCountOk) Try.f80 w_impl_LinkOk_cut w_impl_LinkOk_keep ps_impl_LinkOk rs_impl_LinkOk).F
theorem ok_impl_LinkOk : FnOk Try.prog 80 ⟨ps_impl_LinkOk, rs_impl_LinkOk, F_impl_LinkOk⟩ := sigOk (Γ := w_impl_LinkOk_Γ F_impl_within F_impl_LaneCountOk) (cut := w_impl_LinkOk_cut) (keep := w_impl_LinkOk_keep) (tab_cons ok_impl_within (tab_cons ok_impl_LaneCountOk tab_nil)) Try.func80 (by kernel_rfl) rfl
theorem F_impl_LinkOk_eq (X : (Int × Int × Int) × Unit) : F_impl_LinkOk X =
    (F_impl_LaneCountOk ((X.fst.fst), ())).bind fun r0 =>
      if r0.snd.fst = true then
        (F_impl_within ((X.fst.snd.fst), (1, (4, ())))).bind fun r1 =>
          if r1.snd.fst = true then
            (F_impl_within ((X.fst.snd.snd), (0, (3, ())))).bind fun r2 =>
              some ((), ((r2.snd.fst), ()))
          else
            some ((), (false, ()))
      else
        some ((), (false, ())) := by
  show lim (fun j => whole Try.prog (w_impl_LinkOk_Γ F_impl_within F_impl_LaneCountOk) Try.f80 w_impl_LinkOk_cut w_impl_LinkOk_keep ps_impl_LinkOk rs_impl_LinkOk j X) = _
  rw [lim_succ (fun j r h => whole_mono j r h)]
  simp only [w_impl_LinkOk_0, lim_ite, lim_bind, lim_const]
  all_goals rfl

/-! ### slices.IndexFunc[[]int,int] -/
abbrev ps_slices_IndexFunc_int_int : List PK := [(.val false (.sl 3 (.int .i64))), (.fn [(false, (.int .i64))] [(false, .bool)])]
abbrev rs_slices_IndexFunc_int_int : List RK := [(.own false (.int .i64))]
section
abbrev w_slices_IndexFunc_int_int_keep : Nat → List Nat := kp [(2, [0, 1, 7, 8])]
abbrev w_slices_IndexFunc_int_int_cut : Nat → Bool := memC []
abbrev w_slices_IndexFunc_int_int_Γ : Nat → Option Sig := tab []
noncomputable def w_slices_IndexFunc_int_int_2 (j : Nat) (X : dens ps_slices_IndexFunc_int_int) (v0 : List (Ty.den (.int .i64))) (v1 : (vdens [(false, (.int .i64))] → Option (vdens [(false, .bool)]))) (v2 : Int) (v3 : Int) : Option (outs ps_slices_IndexFunc_int_int × rdens rs_slices_IndexFunc_int_int) := run Try.prog w_slices_IndexFunc_int_int_Γ (fin Try.prog Try.f103 ps_slices_IndexFunc_int_int rs_slices_IndexFunc_int_int X) w_slices_IndexFunc_int_int_cut (resvP ps_slices_IndexFunc_int_int X startN) w_slices_IndexFunc_int_int_keep j (headTodo 2 (bodyOf Try.f103))
  ⟨sparse 19 0 [(0, (.c (.bor 3 (.int .i64) v0))), (1, (.c (.fnv [(false, (.int .i64))] [(false, .bool)] v1))), (7, (.c (.int .i64 v2))), (8, (.c (.int .i64 v3)))], []⟩
theorem w_slices_IndexFunc_int_int_0 (j : Nat) (X : dens ps_slices_IndexFunc_int_int) : whole Try.prog w_slices_IndexFunc_int_int_Γ Try.f103 w_slices_IndexFunc_int_int_cut w_slices_IndexFunc_int_int_keep ps_slices_IndexFunc_int_int rs_slices_IndexFunc_int_int (j + 1) X =
    w_slices_IndexFunc_int_int_2 j X (X.fst) X.snd.fst ((↑(List.length X.fst) : Int)) 0 := by kernel_rfl
theorem w_slices_IndexFunc_int_int_2_step (j : Nat) (X : dens ps_slices_IndexFunc_int_int) (v0 : List (Ty.den (.int .i64))) (v1 : (vdens [(false, (.int .i64))] → Option (vdens [(false, .bool)]))) (v2 : Int) (v3 : Int) : w_slices_IndexFunc_int_int_2 (j + 1) X v0 v1 v2 v3 =
    if decide (v3 < v2) = true then
      if 0 ≤ v3 then
        if v3 < (↑v0.length : Int) then
          (v1 ((v0.getD v3.toNat 0), ())).bind fun r0 =>
            if r0.fst = true then
              some ((), (v3, ()))
            else
              w_slices_IndexFunc_int_int_2 j X v0 v1 v2 (IntKind.i64.wrap (v3 + 1))
        else
          none
      else
        none
    else
      some ((), ((Int.negSucc 0), ())) := by kernel_rfl
end
noncomputable def F_slices_IndexFunc_int_int : (List Int) × ((Int × Unit → Option (Bool × Unit))) × Unit → Option ((Unit) × Int × Unit) := (sigOf Try.prog (w_slices_IndexFunc_int_int_Γ) Try.f103 w_slices_IndexFunc_int_int_cut w_slices_IndexFunc_int_int_keep ps_slices_IndexFunc_int_int rs_slices_IndexFunc_int_int).F
theorem ok_slices_IndexFunc_int_int : FnOk Try.prog 103 ⟨ps_slices_IndexFunc_int_int, rs_slices_IndexFunc_int_int, F_slices_IndexFunc_int_int⟩ := sigOk (Γ := w_slices_IndexFunc_int_int_Γ) (cut := w_slices_IndexFunc_int_int_cut) (keep := w_slices_IndexFunc_int_int_keep) tab_nil Try.func103 (by kernel_rfl) rfl
noncomputable def H_slices_IndexFunc_int_int_2 (X : (List Int) × ((Int × Unit → Option (Bool × Unit))) × Unit) (v0 : List Int) (v1 : (vdens [(false, (.int .i64))] → Option (vdens [(false, .bool)]))) (v2 : Int) (v3 : Int) : Option ((Unit) × Int × Unit) := lim fun j => w_slices_IndexFunc_int_int_2 j X v0 v1 v2 v3
theorem H_slices_IndexFunc_int_int_2_eq (X : (List Int) × ((Int × Unit → Option (Bool × Unit))) × Unit) (v0 : List Int) (v1 : (vdens [(false, (.int .i64))] → Option (vdens [(false, .bool)]))) (v2 : Int) (v3 : Int) : H_slices_IndexFunc_int_int_2 X v0 v1 v2 v3 =
    if decide (v3 < v2) = true then
      if 0 ≤ v3 then
        if v3 < (↑v0.length : Int) then
          (v1 ((v0.getD v3.toNat 0), ())).bind fun r0 =>
            if r0.fst = true then
              some ((), (v3, ()))
            else
              H_slices_IndexFunc_int_int_2 X v0 v1 v2 (IntKind.i64.wrap (v3 + 1))
        else
          none
      else
        none
    else
      some ((), ((Int.negSucc 0), ())) := by
  show lim (fun j => w_slices_IndexFunc_int_int_2 j X v0 v1 v2 v3) = _
  rw [lim_succ (G := fun j => w_slices_IndexFunc_int_int_2 j X v0 v1 v2 v3) (fun j r h => run_mono _ _ _ _ h)]
  simp only [w_slices_IndexFunc_int_int_2_step, lim_ite, lim_bind, lim_const]
  all_goals rfl
theorem F_slices_IndexFunc_int_int_eq (X : (List Int) × ((Int × Unit → Option (Bool × Unit))) × Unit) : F_slices_IndexFunc_int_int X =
    H_slices_IndexFunc_int_int_2 X (X.fst) X.snd.fst ((↑(List.length X.fst) : Int)) 0 := by
  show lim (fun j => whole Try.prog (w_slices_IndexFunc_int_int_Γ) Try.f103 w_slices_IndexFunc_int_int_cut w_slices_IndexFunc_int_int_keep ps_slices_IndexFunc_int_int rs_slices_IndexFunc_int_int j X) = _
  rw [lim_succ (fun j r h => whole_mono j r h)]
  simp only [w_slices_IndexFunc_int_int_0, lim_ite, lim_bind, lim_const]
  all_goals rfl

/-! ### slices.ContainsFunc[[]int,int] -/
abbrev ps_slices_ContainsFunc_int_int : List PK := [(.val false (.sl 3 (.int .i64))), (.fn [(false, (.int .i64))] [(false, .bool)])]
abbrev rs_slices_ContainsFunc_int_int : List RK := [(.own false .bool)]
section
variable (F_slices_IndexFunc_int_int : dens ps_slices_IndexFunc_int_int → Option (outs ps_slices_IndexFunc_int_int × rdens rs_slices_IndexFunc_int_int))
abbrev w_slices_ContainsFunc_int_int_keep : Nat → List Nat := kp []
abbrev w_slices_ContainsFunc_int_int_cut : Nat → Bool := memC []
abbrev w_slices_ContainsFunc_int_int_Γ : Nat → Option Sig := tab [(103, ⟨ps_slices_IndexFunc_int_int, rs_slices_IndexFunc_int_int, F_slices_IndexFunc_int_int⟩)]
theorem w_slices_ContainsFunc_int_int_0 (j : Nat) (X : dens ps_slices_ContainsFunc_int_int) : whole Try.prog (w_slices_ContainsFunc_int_int_Γ F_slices_IndexFunc_int_int) Try.f99 w_slices_ContainsFunc_int_int_cut w_slices_ContainsFunc_int_int_keep ps_slices_ContainsFunc_int_int rs_slices_ContainsFunc_int_int (j + 1) X =
    (F_slices_IndexFunc_int_int ((X.fst), ((X.snd.fst), ()))).bind fun r0 =>
      some ((), ((decide (r0.snd.fst ≥ 0)), ())) := by kernel_rfl
end
noncomputable def F_slices_ContainsFunc_int_int : (List Int) × ((Int × Unit → Option (Bool × Unit))) × Unit → Option ((Unit) × Bool × Unit) := (sigOf Try.prog (w_slices_ContainsFunc_int_int_Γ F_slices_IndexFunc_int_int) Try.f99 w_slices_ContainsFunc_int_int_cut w_slices_ContainsFunc_int_int_keep ps_slices_ContainsFunc_int_int rs_slices_ContainsFunc_int_int).F
theorem ok_slices_ContainsFunc_int_int : FnOk Try.prog 99 ⟨ps_slices_ContainsFunc_int_int, rs_slices_ContainsFunc_int_int, F_slices_ContainsFunc_int_int⟩ := sigOk (Γ := w_slices_ContainsFunc_int_int_Γ F_slices_IndexFunc_int_int) (cut := w_slices_ContainsFunc_int_int_cut) (keep := w_slices_ContainsFunc_int_int_keep) (tab_cons ok_slices_IndexFunc_int_int tab_nil) Try.func99 (by kernel_rfl) rfl
theorem F_slices_ContainsFunc_int_int_eq (X : (List Int) × ((Int × Unit → Option (Bool × Unit))) × Unit) : F_slices_ContainsFunc_int_int X =
    (F_slices_IndexFunc_int_int ((X.fst), ((X.snd.fst), ()))).bind fun r0 =>
      some ((), ((decide (r0.snd.fst ≥ 0)), ())) := by
  show lim (fun j => whole Try.prog (w_slices_ContainsFunc_int_int_Γ F_slices_IndexFunc_int_int) Try.f99 w_slices_ContainsFunc_int_int_cut w_slices_ContainsFunc_int_int_keep ps_slices_ContainsFunc_int_int rs_slices_ContainsFunc_int_int j X) = _
  rw [lim_succ (fun j r h => whole_mono j r h)]
  simp only [w_slices_ContainsFunc_int_int_0, lim_ite, lim_bind, lim_const]
  all_goals rfl

/-! ### impl.areSkews$1 -/
abbrev ps_impl_areSkews_1 : List PK := [(.val false (.int .i64))]
abbrev rs_impl_areSkews_1 : List RK := [(.own false .bool)]
section
variable (F_impl_within : dens ps_impl_within → Option (outs ps_impl_within × rdens rs_impl_within))
abbrev w_impl_areSkews_1_keep : Nat → List Nat := kp []
abbrev w_impl_areSkews_1_cut : Nat → Bool := memC []
abbrev w_impl_areSkews_1_Γ : Nat → Option Sig := tab [(64, ⟨ps_impl_within, rs_impl_within, F_impl_within⟩)]
theorem w_impl_areSkews_1_0 (j : Nat) (X : dens ps_impl_areSkews_1) : whole Try.prog (w_impl_areSkews_1_Γ F_impl_within) Try.f100 w_impl_areSkews_1_cut w_impl_areSkews_1_keep ps_impl_areSkews_1 rs_impl_areSkews_1 (j + 1) X =
    (F_impl_within ((X.fst), (0, (8, ())))).bind fun r0 =>
      some ((), ((!r0.snd.fst), ())) := by kernel_rfl
end
noncomputable def F_impl_areSkews_1 : Int × Unit → Option ((Unit) × Bool × Unit) := (sigOf Try.prog (w_impl_areSkews_1_Γ F_impl_within) Try.f100 w_impl_areSkews_1_cut w_impl_areSkews_1_keep ps_impl_areSkews_1 rs_impl_areSkews_1).F
theorem ok_impl_areSkews_1 : FnOk Try.prog 100 ⟨ps_impl_areSkews_1, rs_impl_areSkews_1, F_impl_areSkews_1⟩ := sigOk (Γ := w_impl_areSkews_1_Γ F_impl_within) (cut := w_impl_areSkews_1_cut) (keep := w_impl_areSkews_1_keep) (tab_cons ok_impl_within tab_nil) Try.func100 (by kernel_rfl) rfl
theorem F_impl_areSkews_1_eq (X : Int × Unit) : F_impl_areSkews_1 X =
    (F_impl_within ((X.fst), (0, (8, ())))).bind fun r0 =>
      some ((), ((!r0.snd.fst), ())) := by
  show lim (fun j => whole Try.prog (w_impl_areSkews_1_Γ F_impl_within) Try.f100 w_impl_areSkews_1_cut w_impl_areSkews_1_keep ps_impl_areSkews_1 rs_impl_areSkews_1 j X) = _
  rw [lim_succ (fun j r h => whole_mono j r h)]
  simp only [w_impl_areSkews_1_0, lim_ite, lim_bind, lim_const]
  all_goals rfl

/-! ### impl.areSkews -/
abbrev ps_impl_areSkews : List PK := [(.val false (.sl 3 (.int .i64)))]
abbrev rs_impl_areSkews : List RK := [(.own false .bool)]
section
variable (F_slices_ContainsFunc_int_int : dens ps_slices_ContainsFunc_int_int → Option (outs ps_slices_ContainsFunc_int_int × rdens rs_slices_ContainsFunc_int_int))
variable (F_impl_areSkews_1 : dens ps_impl_areSkews_1 → Option (outs ps_impl_areSkews_1 × rdens rs_impl_areSkews_1))
abbrev w_impl_areSkews_keep : Nat → List Nat := kp []
abbrev w_impl_areSkews_cut : Nat → Bool := memC []
abbrev w_impl_areSkews_Γ : Nat → Option Sig := tab [(99, ⟨ps_slices_ContainsFunc_int_int, rs_slices_ContainsFunc_int_int, F_slices_ContainsFunc_int_int⟩), (100, ⟨ps_impl_areSkews_1, rs_impl_areSkews_1, F_impl_areSkews_1⟩)]
theorem w_impl_areSkews_0 (j : Nat) (X : dens ps_impl_areSkews) : whole Try.prog (w_impl_areSkews_Γ F_slices_ContainsFunc_int_int F_impl_areSkews_1) Try.f81 w_impl_areSkews_cut w_impl_areSkews_keep ps_impl_areSkews rs_impl_areSkews (j + 1) X =
    (F_slices_ContainsFunc_int_int ((X.fst), ((fun x => Option.map (fun r => (r.snd.fst, ())) (F_impl_areSkews_1 (x.fst, ()))), ()))).bind fun r0 =>
      some ((), ((!r0.snd.fst), ())) := by kernel_rfl
end
noncomputable def F_impl_areSkews : (List Int) × Unit → Option ((Unit) × Bool × Unit) := (sigOf Try.prog (w_impl_areSkews_Γ F_slices_ContainsFunc_int_int F_impl_areSkews_1) Try.f81 w_impl_areSkews_cut w_impl_areSkews_keep ps_impl_areSkews rs_impl_areSkews).F
theorem ok_impl_areSkews : FnOk Try.prog 81 ⟨ps_impl_areSkews, rs_impl_areSkews, F_impl_areSkews⟩ := sigOk (Γ := w_impl_areSkews_Γ F_slices_ContainsFunc_int_int F_impl_areSkews_1) (cut := w_impl_areSkews_cut) (keep := w_impl_areSkews_keep) (tab_cons ok_slices_ContainsFunc_int_int (tab_cons ok_impl_areSkews_1 tab_nil)) Try.func81 (by kernel_rfl) rfl
theorem F_impl_areSkews_eq (X : (List Int) × Unit) : F_impl_areSkews X =
    (F_slices_ContainsFunc_int_int ((X.fst), ((fun x => Option.map (fun r => (r.snd.fst, ())) (F_impl_areSkews_1 (x.fst, ()))), ()))).bind fun r0 =>
      some ((), ((!r0.snd.fst), ())) := by
  show lim (fun j => whole Try.prog (w_impl_areSkews_Γ F_slices_ContainsFunc_int_int F_impl_areSkews_1) Try.f81 w_impl_areSkews_cut w_impl_areSkews_keep ps_impl_areSkews rs_impl_areSkews j X) = _
  rw [lim_succ (fun j r h => whole_mono j r h)]
  simp only [w_impl_areSkews_0, lim_ite, lim_bind, lim_const]
  all_goals rfl

/-! ### impl.isKey -/
abbrev ps_impl_isKey : List PK := [(.val false (.int .i64))]
abbrev rs_impl_isKey : List RK := [(.own false .bool)]
section
variable (F_impl_within : dens ps_impl_within → Option (outs ps_impl_within × rdens rs_impl_within))
abbrev w_impl_isKey_keep : Nat → List Nat := kp []
abbrev w_impl_isKey_cut : Nat → Bool := memC []
abbrev w_impl_isKey_Γ : Nat → Option Sig := tab [(64, ⟨ps_impl_within, rs_impl_within, F_impl_within⟩)]
theorem w_impl_isKey_0 (j : Nat) (X : dens ps_impl_isKey) : whole Try.prog (w_impl_isKey_Γ F_impl_within) Try.f82 w_impl_isKey_cut w_impl_isKey_keep ps_impl_isKey rs_impl_isKey (j + 1) X =
    (F_impl_within ((X.fst), (0, (2147483647, ())))).bind fun r0 =>
      some ((), ((r0.snd.fst), ())) := by kernel_rfl
end
noncomputable def F_impl_isKey : Int × Unit → Option ((Unit) × Bool × Unit) := (sigOf Try.prog (w_impl_isKey_Γ F_impl_within) Try.f82 w_impl_isKey_cut w_impl_isKey_keep ps_impl_isKey rs_impl_isKey).F
theorem ok_impl_isKey : FnOk Try.prog 82 ⟨ps_impl_isKey, rs_impl_isKey, F_impl_isKey⟩ := sigOk (Γ := w_impl_isKey_Γ F_impl_within) (cut := w_impl_isKey_cut) (keep := w_impl_isKey_keep) (tab_cons ok_impl_within tab_nil) Try.func82 (by kernel_rfl) rfl
theorem F_impl_isKey_eq (X : Int × Unit) : F_impl_isKey X =
    (F_impl_within ((X.fst), (0, (2147483647, ())))).bind fun r0 =>
      some ((), ((r0.snd.fst), ())) := by
  show lim (fun j => whole Try.prog (w_impl_isKey_Γ F_impl_within) Try.f82 w_impl_isKey_cut w_impl_isKey_keep ps_impl_isKey rs_impl_isKey j X) = _
  rw [lim_succ (fun j r h => whole_mono j r h)]
  simp only [w_impl_isKey_0, lim_ite, lim_bind, lim_const]
  all_goals rfl

/-! ### impl.ChannelOk -/
abbrev ps_impl_ChannelOk : List PK := [(.val true (.pair (.pair (.int .i64) (.pair (.int .i64) (.int .i64))) (.pair (.sl 3 (.int .i64)) (.pair (.int .i64) .bool))))]
abbrev rs_impl_ChannelOk : List RK := [(.own false .bool)]
section
variable (F_impl_LinkOk : dens ps_impl_LinkOk → Option (outs ps_impl_LinkOk × rdens rs_impl_LinkOk))
variable (F_impl_areSkews : dens ps_impl_areSkews → Option (outs ps_impl_areSkews × rdens rs_impl_areSkews))
variable (F_impl_isKey : dens ps_impl_isKey → Option (outs ps_impl_isKey × rdens rs_impl_isKey))
abbrev w_impl_ChannelOk_keep : Nat → List Nat := kp []
abbrev w_impl_ChannelOk_cut : Nat → Bool := memC []
abbrev w_impl_ChannelOk_Γ : Nat → Option Sig := tab [(80, ⟨ps_impl_LinkOk, rs_impl_LinkOk, F_impl_LinkOk⟩), (81, ⟨ps_impl_areSkews, rs_impl_areSkews, F_impl_areSkews⟩), (82, ⟨ps_impl_isKey, rs_impl_isKey, F_impl_isKey⟩)]
theorem w_impl_ChannelOk_0 (j : Nat) (X : dens ps_impl_ChannelOk) : whole Try.prog (w_impl_ChannelOk_Γ F_impl_LinkOk F_impl_areSkews F_impl_isKey) Try.f47 w_impl_ChannelOk_cut w_impl_ChannelOk_keep ps_impl_ChannelOk rs_impl_ChannelOk (j + 1) X =
    (F_impl_LinkOk ((X.fst.fst), ())).bind fun r0 =>
      if r0.snd.fst = true then
        if ((↑(List.length X.fst.snd.fst) : Int) == X.fst.fst.fst) = true then
          (F_impl_areSkews ((X.fst.snd.fst), ())).bind fun r1 =>
            if r1.snd.fst = true then
              (F_impl_isKey ((X.fst.snd.snd.fst), ())).bind fun r2 =>
                some ((), ((r2.snd.fst), ()))
            else
              some ((), (false, ()))
        else
          some ((), (false, ()))
      else
        some ((), (false, ())) := by kernel_rfl
end
noncomputable def F_impl_ChannelOk : ((Int × Int × Int) × (List Int) × Int × Bool) × Unit → Option ((Unit) × Bool × Unit) := (sigOf Try.prog (w_impl_ChannelOk_Γ F_impl_LinkOk F_impl_areSkews F_impl_isKey) Try.f47 w_impl_ChannelOk_cut w_impl_ChannelOk_keep ps_impl_ChannelOk rs_impl_ChannelOk).F
theorem ok_impl_ChannelOk : FnOk Try.prog 47 ⟨ps_impl_ChannelOk, rs_impl_ChannelOk, F_impl_ChannelOk⟩ := sigOk (Γ := w_impl_ChannelOk_Γ F_impl_LinkOk F_impl_areSkews F_impl_isKey) (cut := w_impl_ChannelOk_cut) (keep := w_impl_ChannelOk_keep) (tab_cons ok_impl_LinkOk (tab_cons ok_impl_areSkews (tab_cons ok_impl_isKey tab_nil))) Try.func47 (by kernel_rfl) rfl
theorem F_impl_ChannelOk_eq (X : ((Int × Int × Int) × (List Int) × Int × Bool) × Unit) : F_impl_ChannelOk X =
    (F_impl_LinkOk ((X.fst.fst), ())).bind fun r0 =>
      if r0.snd.fst = true then
        if ((↑(List.length X.fst.snd.fst) : Int) == X.fst.fst.fst) = true then
          (F_impl_areSkews ((X.fst.snd.fst), ())).bind fun r1 =>
            if r1.snd.fst = true then
              (F_impl_isKey ((X.fst.snd.snd.fst), ())).bind fun r2 =>
                some ((), ((r2.snd.fst), ()))
            else
              some ((), (false, ()))
        else
          some ((), (false, ()))
      else
        some ((), (false, ())) := by
  show lim (fun j => whole Try.prog (w_impl_ChannelOk_Γ F_impl_LinkOk F_impl_areSkews F_impl_isKey) Try.f47 w_impl_ChannelOk_cut w_impl_ChannelOk_keep ps_impl_ChannelOk rs_impl_ChannelOk j X) = _
  rw [lim_succ (fun j r h => whole_mono j r h)]
  simp only [w_impl_ChannelOk_0, lim_ite, lim_bind, lim_const]
  all_goals rfl

/-! ### impl.ceilDiv -/
abbrev ps_impl_ceilDiv : List PK := [(.val false (.int .i64)), (.val false (.int .i64))]
abbrev rs_impl_ceilDiv : List RK := [(.own false (.int .i64))]
section
abbrev w_impl_ceilDiv_keep : Nat → List Nat := kp []
abbrev w_impl_ceilDiv_cut : Nat → Bool := memC []
abbrev w_impl_ceilDiv_Γ : Nat → Option Sig := tab []
theorem w_impl_ceilDiv_0 (j : Nat) (X : dens ps_impl_ceilDiv) : whole Try.prog w_impl_ceilDiv_Γ Try.f92 w_impl_ceilDiv_cut w_impl_ceilDiv_keep ps_impl_ceilDiv rs_impl_ceilDiv (j + 1) X =
    if X.snd.fst = 0 then
      none
    else
      some ((), ((IntKind.i64.wrap ((IntKind.i64.wrap (IntKind.i64.wrap (X.fst + X.snd.fst) - 1)).tdiv X.snd.fst)), ())) := by kernel_rfl
end
noncomputable def F_impl_ceilDiv : Int × Int × Unit → Option ((Unit) × Int × Unit) := (sigOf Try.prog (w_impl_ceilDiv_Γ) Try.f92 w_impl_ceilDiv_cut w_impl_ceilDiv_keep ps_impl_ceilDiv rs_impl_ceilDiv).F
theorem ok_impl_ceilDiv : FnOk Try.prog 92 ⟨ps_impl_ceilDiv, rs_impl_ceilDiv, F_impl_ceilDiv⟩ := sigOk (Γ := w_impl_ceilDiv_Γ) (cut := w_impl_ceilDiv_cut) (keep := w_impl_ceilDiv_keep) tab_nil Try.func92 (by kernel_rfl) rfl
theorem F_impl_ceilDiv_eq (X : Int × Int × Unit) : F_impl_ceilDiv X =
    if X.snd.fst = 0 then
      none
    else
      some ((), ((IntKind.i64.wrap ((IntKind.i64.wrap (IntKind.i64.wrap (X.fst + X.snd.fst) - 1)).tdiv X.snd.fst)), ())) := by
  show lim (fun j => whole Try.prog (w_impl_ceilDiv_Γ) Try.f92 w_impl_ceilDiv_cut w_impl_ceilDiv_keep ps_impl_ceilDiv rs_impl_ceilDiv j X) = _
  rw [lim_succ (fun j r h => whole_mono j r h)]
  simp only [w_impl_ceilDiv_0, lim_ite, lim_bind, lim_const]
  all_goals rfl

/-! ### impl.isSide -/
abbrev ps_impl_isSide : List PK := [(.val false (.int .i64))]
abbrev rs_impl_isSide : List RK := [(.own false .bool)]
section
variable (F_impl_within : dens ps_impl_within → Option (outs ps_impl_within × rdens rs_impl_within))
abbrev w_impl_isSide_keep : Nat → List Nat := kp []
abbrev w_impl_isSide_cut : Nat → Bool := memC []
abbrev w_impl_isSide_Γ : Nat → Option Sig := tab [(64, ⟨ps_impl_within, rs_impl_within, F_impl_within⟩)]
theorem w_impl_isSide_0 (j : Nat) (X : dens ps_impl_isSide) : whole Try.prog (w_impl_isSide_Γ F_impl_within) Try.f93 w_impl_isSide_cut w_impl_isSide_keep ps_impl_isSide rs_impl_isSide (j + 1) X =
    (F_impl_within ((X.fst), (1, (16, ())))).bind fun r0 =>
      some ((), ((r0.snd.fst), ())) := by kernel_rfl
end
noncomputable def F_impl_isSide : Int × Unit → Option ((Unit) × Bool × Unit) := (sigOf Try.prog (w_impl_isSide_Γ F_impl_within) Try.f93 w_impl_isSide_cut w_impl_isSide_keep ps_impl_isSide rs_impl_isSide).F
theorem ok_impl_isSide : FnOk Try.prog 93 ⟨ps_impl_isSide, rs_impl_isSide, F_impl_isSide⟩ := sigOk (Γ := w_impl_isSide_Γ F_impl_within) (cut := w_impl_isSide_cut) (keep := w_impl_isSide_keep) (tab_cons ok_impl_within tab_nil) Try.func93 (by kernel_rfl) rfl
theorem F_impl_isSide_eq (X : Int × Unit) : F_impl_isSide X =
    (F_impl_within ((X.fst), (1, (16, ())))).bind fun r0 =>
      some ((), ((r0.snd.fst), ())) := by
  show lim (fun j => whole Try.prog (w_impl_isSide_Γ F_impl_within) Try.f93 w_impl_isSide_cut w_impl_isSide_keep ps_impl_isSide rs_impl_isSide j X) = _
  rw [lim_succ (fun j r h => whole_mono j r h)]
  simp only [w_impl_isSide_0, lim_ite, lim_bind, lim_const]
  all_goals rfl

/-! ### impl.PacketLength -/
abbrev ps_impl_PacketLength : List PK := [(.val false (.int .i64)), (.val false (.int .i64))]
abbrev rs_impl_PacketLength : List RK := [(.own false (.int .i64))]
section
variable (F_impl_isSide : dens ps_impl_isSide → Option (outs ps_impl_isSide × rdens rs_impl_isSide))
abbrev w_impl_PacketLength_keep : Nat → List Nat := kp []
abbrev w_impl_PacketLength_cut : Nat → Bool := memC []
abbrev w_impl_PacketLength_Γ : Nat → Option Sig := tab [(93, ⟨ps_impl_isSide, rs_impl_isSide, F_impl_isSide⟩)]
theorem w_impl_PacketLength_0 (j : Nat) (X : dens ps_impl_PacketLength) : whole Try.prog (w_impl_PacketLength_Γ F_impl_isSide) Try.f101 w_impl_PacketLength_cut w_impl_PacketLength_keep ps_impl_PacketLength rs_impl_PacketLength (j + 1) X =
    if (X.fst == 0) = true then
      (F_impl_isSide ((X.snd.fst), ())).bind fun r0 =>
        if r0.snd.fst = true then
          some ((), ((IntKind.i64.wrap (7 + IntKind.i64.wrap (5 * X.snd.fst))), ()))
        else
          if (X.fst == 1) = true then
            if (X.snd.fst == 0) = true then
              some ((), (7, ()))
            else
              some ((), ((Int.negSucc 0), ()))
          else
            if (X.fst == 2) = true then
              if (X.snd.fst == 0) = true then
                some ((), (7, ()))
              else
                some ((), ((Int.negSucc 0), ()))
            else
              some ((), ((Int.negSucc 0), ()))
    else
      if (X.fst == 1) = true then
        if (X.snd.fst == 0) = true then
          some ((), (7, ()))
        else
          some ((), ((Int.negSucc 0), ()))
      else
        if (X.fst == 2) = true then
          if (X.snd.fst == 0) = true then
            some ((), (7, ()))
          else
            some ((), ((Int.negSucc 0), ()))
        else
          some ((), ((Int.negSucc 0), ())) := by kernel_rfl
end
noncomputable def F_impl_PacketLength : Int × Int × Unit → Option ((Unit) × Int × Unit) := (sigOf Try.prog (w_impl_PacketLength_Γ F_impl_isSide) Try.f101 w_impl_PacketLength_cut w_impl_PacketLength_keep ps_impl_PacketLength rs_impl_PacketLength).F
theorem ok_impl_PacketLength : FnOk Try.prog 101 ⟨ps_impl_PacketLength, rs_impl_PacketLength, F_impl_PacketLength⟩ := sigOk (Γ := w_impl_PacketLength_Γ F_impl_isSide) (cut := w_impl_PacketLength_cut) (keep := w_impl_PacketLength_keep) (tab_cons ok_impl_isSide tab_nil) Try.func101 (by kernel_rfl) rfl
theorem F_impl_PacketLength_eq (X : Int × Int × Unit) : F_impl_PacketLength X =
    if (X.fst == 0) = true then
      (F_impl_isSide ((X.snd.fst), ())).bind fun r0 =>
        if r0.snd.fst = true then
          some ((), ((IntKind.i64.wrap (7 + IntKind.i64.wrap (5 * X.snd.fst))), ()))
        else
          if (X.fst == 1) = true then
            if (X.snd.fst == 0) = true then
              some ((), (7, ()))
            else
              some ((), ((Int.negSucc 0), ()))
          else
            if (X.fst == 2) = true then
              if (X.snd.fst == 0) = true then
                some ((), (7, ()))
              else
                some ((), ((Int.negSucc 0), ()))
            else
              some ((), ((Int.negSucc 0), ()))
    else
      if (X.fst == 1) = true then
        if (X.snd.fst == 0) = true then
          some ((), (7, ()))
        else
          some ((), ((Int.negSucc 0), ()))
      else
        if (X.fst == 2) = true then
          if (X.snd.fst == 0) = true then
            some ((), (7, ()))
          else
            some ((), ((Int.negSucc 0), ()))
        else
          some ((), ((Int.negSucc 0), ())) := by
  show lim (fun j => whole Try.prog (w_impl_PacketLength_Γ F_impl_isSide) Try.f101 w_impl_PacketLength_cut w_impl_PacketLength_keep ps_impl_PacketLength rs_impl_PacketLength j X) = _
  rw [lim_succ (fun j r h => whole_mono j r h)]
  simp only [w_impl_PacketLength_0, lim_ite, lim_bind, lim_const]
  all_goals rfl

/-! ### impl.SymbolsFor -/
abbrev ps_impl_SymbolsFor : List PK := [(.val false (.int .i64))]
abbrev rs_impl_SymbolsFor : List RK := [(.own false (.int .i64))]
section
variable (F_impl_ceilDiv : dens ps_impl_ceilDiv → Option (outs ps_impl_ceilDiv × rdens rs_impl_ceilDiv))
variable (F_impl_PacketLength : dens ps_impl_PacketLength → Option (outs ps_impl_PacketLength × rdens rs_impl_PacketLength))
abbrev w_impl_SymbolsFor_keep : Nat → List Nat := kp []
abbrev w_impl_SymbolsFor_cut : Nat → Bool := memC []
abbrev w_impl_SymbolsFor_Γ : Nat → Option Sig := tab [(92, ⟨ps_impl_ceilDiv, rs_impl_ceilDiv, F_impl_ceilDiv⟩), (101, ⟨ps_impl_PacketLength, rs_impl_PacketLength, F_impl_PacketLength⟩)]
theorem w_impl_SymbolsFor_0 (j : Nat) (X : dens ps_impl_SymbolsFor) : whole Try.prog (w_impl_SymbolsFor_Γ F_impl_ceilDiv F_impl_PacketLength) Try.f87 w_impl_SymbolsFor_cut w_impl_SymbolsFor_keep ps_impl_SymbolsFor rs_impl_SymbolsFor (j + 1) X =
    if (X.fst == 0) = true then
      (F_impl_PacketLength (1, ((X.fst), ()))).bind fun r0 =>
        if decide (r0.snd.fst < 0) = true then
          some ((), ((Int.negSucc 0), ()))
        else
          (F_impl_ceilDiv ((r0.snd.fst), (13, ()))).bind fun r1 =>
            some ((), ((IntKind.i64.wrap (r1.snd.fst * 15)), ()))
    else
      (F_impl_PacketLength (0, ((X.fst), ()))).bind fun r2 =>
        if decide (r2.snd.fst < 0) = true then
          some ((), ((Int.negSucc 0), ()))
        else
          (F_impl_ceilDiv ((r2.snd.fst), (13, ()))).bind fun r3 =>
            some ((), ((IntKind.i64.wrap (r3.snd.fst * 15)), ())) := by kernel_rfl
end
noncomputable def F_impl_SymbolsFor : Int × Unit → Option ((Unit) × Int × Unit) := (sigOf Try.prog (w_impl_SymbolsFor_Γ F_impl_ceilDiv F_impl_PacketLength) Try.f87 w_impl_SymbolsFor_cut w_impl_SymbolsFor_keep ps_impl_SymbolsFor rs_impl_SymbolsFor).F
theorem ok_impl_SymbolsFor : FnOk Try.prog 87 ⟨ps_impl_SymbolsFor, rs_impl_SymbolsFor, F_impl_SymbolsFor⟩ := sigOk (Γ := w_impl_SymbolsFor_Γ F_impl_ceilDiv F_impl_PacketLength) (cut := w_impl_SymbolsFor_cut) (keep := w_impl_SymbolsFor_keep) (tab_cons ok_impl_ceilDiv (tab_cons ok_impl_PacketLength tab_nil)) Try.func87 (by kernel_rfl) rfl
theorem F_impl_SymbolsFor_eq (X : Int × Unit) : F_impl_SymbolsFor X =
    if (X.fst == 0) = true then
      (F_impl_PacketLength (1, ((X.fst), ()))).bind fun r0 =>
        if decide (r0.snd.fst < 0) = true then
          some ((), ((Int.negSucc 0), ()))
        else
          (F_impl_ceilDiv ((r0.snd.fst), (13, ()))).bind fun r1 =>
            some ((), ((IntKind.i64.wrap (r1.snd.fst * 15)), ()))
    else
      (F_impl_PacketLength (0, ((X.fst), ()))).bind fun r2 =>
        if decide (r2.snd.fst < 0) = true then
          some ((), ((Int.negSucc 0), ()))
        else
          (F_impl_ceilDiv ((r2.snd.fst), (13, ()))).bind fun r3 =>
            some ((), ((IntKind.i64.wrap (r3.snd.fst * 15)), ())) := by
  show lim (fun j => whole Try.prog (w_impl_SymbolsFor_Γ F_impl_ceilDiv F_impl_PacketLength) Try.f87 w_impl_SymbolsFor_cut w_impl_SymbolsFor_keep ps_impl_SymbolsFor rs_impl_SymbolsFor j X) = _
  rw [lim_succ (fun j r h => whole_mono j r h)]
  simp only [w_impl_SymbolsFor_0, lim_ite, lim_bind, lim_const]
  all_goals rfl

/-! ### slices.Max[[]int,int] -/
abbrev ps_slices_Max_int_int : List PK := [(.val false (.sl 3 (.int .i64)))]
abbrev rs_slices_Max_int_int : List RK := [(.own false (.int .i64))]
section
abbrev w_slices_Max_int_int_keep : Nat → List Nat := kp [(5, [0, 3, 4])]
abbrev w_slices_Max_int_int_cut : Nat → Bool := memC []
abbrev w_slices_Max_int_int_Γ : Nat → Option Sig := tab []
noncomputable def w_slices_Max_int_int_5 (j : Nat) (X : dens ps_slices_Max_int_int) (v0 : List (Ty.den (.int .i64))) (v1 : Int) (v2 : Int) : Option (outs ps_slices_Max_int_int × rdens rs_slices_Max_int_int) := run Try.prog w_slices_Max_int_int_Γ (fin Try.prog Try.f91 ps_slices_Max_int_int rs_slices_Max_int_int X) w_slices_Max_int_int_cut (resvP ps_slices_Max_int_int X startN) w_slices_Max_int_int_keep j (headTodo 5 (bodyOf Try.f91))
  ⟨sparse 25 0 [(0, (.c (.bor 3 (.int .i64) v0))), (3, (.c (.int .i64 v1))), (4, (.c (.int .i64 v2)))], []⟩
theorem w_slices_Max_int_int_0 (j : Nat) (X : dens ps_slices_Max_int_int) : whole Try.prog w_slices_Max_int_int_Γ Try.f91 w_slices_Max_int_int_cut w_slices_Max_int_int_keep ps_slices_Max_int_int rs_slices_Max_int_int (j + 1) X =
    if decide ((↑(List.length X.fst) : Int) < 1) = true then
      none
    else
      if 0 < (↑(List.length X.fst) : Int) then
        w_slices_Max_int_int_5 j X (X.fst) (List.getD X.fst 0 0) 1
      else
        none := by kernel_rfl
theorem w_slices_Max_int_int_5_step (j : Nat) (X : dens ps_slices_Max_int_int) (v0 : List (Ty.den (.int .i64))) (v1 : Int) (v2 : Int) : w_slices_Max_int_int_5 (j + 1) X v0 v1 v2 =
    if decide (v2 < (↑v0.length : Int)) = true then
      if 0 ≤ v2 then
        if v2 < (↑v0.length : Int) then
          w_slices_Max_int_int_5 j X v0 (List.foldl mx2 v1 [v0.getD v2.toNat 0]) (IntKind.i64.wrap (v2 + 1))
        else
          none
      else
        none
    else
      some ((), (v1, ())) := by kernel_rfl
end
noncomputable def F_slices_Max_int_int : (List Int) × Unit → Option ((Unit) × Int × Unit) := (sigOf Try.prog (w_slices_Max_int_int_Γ) Try.f91 w_slices_Max_int_int_cut w_slices_Max_int_int_keep ps_slices_Max_int_int rs_slices_Max_int_int).F
theorem ok_slices_Max_int_int : FnOk Try.prog 91 ⟨ps_slices_Max_int_int, rs_slices_Max_int_int, F_slices_Max_int_int⟩ := sigOk (Γ := w_slices_Max_int_int_Γ) (cut := w_slices_Max_int_int_cut) (keep := w_slices_Max_int_int_keep) tab_nil Try.func91 (by kernel_rfl) rfl
noncomputable def H_slices_Max_int_int_5 (X : (List Int) × Unit) (v0 : List Int) (v1 : Int) (v2 : Int) : Option ((Unit) × Int × Unit) := lim fun j => w_slices_Max_int_int_5 j X v0 v1 v2
theorem H_slices_Max_int_int_5_eq (X : (List Int) × Unit) (v0 : List Int) (v1 : Int) (v2 : Int) : H_slices_Max_int_int_5 X v0 v1 v2 =
    if decide (v2 < (↑v0.length : Int)) = true then
      if 0 ≤ v2 then
        if v2 < (↑v0.length : Int) then
          H_slices_Max_int_int_5 X v0 (List.foldl mx2 v1 [v0.getD v2.toNat 0]) (IntKind.i64.wrap (v2 + 1))
        else
          none
      else
        none
    else
      some ((), (v1, ())) := by
  show lim (fun j => w_slices_Max_int_int_5 j X v0 v1 v2) = _
  rw [lim_succ (G := fun j => w_slices_Max_int_int_5 j X v0 v1 v2) (fun j r h => run_mono _ _ _ _ h)]
  simp only [w_slices_Max_int_int_5_step, lim_ite, lim_bind, lim_const]
  all_goals rfl
theorem F_slices_Max_int_int_eq (X : (List Int) × Unit) : F_slices_Max_int_int X =
    if decide ((↑(List.length X.fst) : Int) < 1) = true then
      none
    else
      if 0 < (↑(List.length X.fst) : Int) then
        H_slices_Max_int_int_5 X (X.fst) (List.getD X.fst 0 0) 1
      else
        none := by
  show lim (fun j => whole Try.prog (w_slices_Max_int_int_Γ) Try.f91 w_slices_Max_int_int_cut w_slices_Max_int_int_keep ps_slices_Max_int_int rs_slices_Max_int_int j X) = _
  rw [lim_succ (fun j r h => whole_mono j r h)]
  simp only [w_slices_Max_int_int_0, lim_ite, lim_bind, lim_const]
  all_goals rfl

/-! ### impl.WireLength -/
abbrev ps_impl_WireLength : List PK := [(.val true (.pair (.pair (.int .i64) (.pair (.int .i64) (.int .i64))) (.pair (.sl 3 (.int .i64)) (.pair (.int .i64) .bool)))), (.val false (.int .i64))]
abbrev rs_impl_WireLength : List RK := [(.own false (.int .i64))]
section
variable (F_impl_ChannelOk : dens ps_impl_ChannelOk → Option (outs ps_impl_ChannelOk × rdens rs_impl_ChannelOk))
variable (F_impl_SymbolsFor : dens ps_impl_SymbolsFor → Option (outs ps_impl_SymbolsFor × rdens rs_impl_SymbolsFor))
variable (F_slices_Max_int_int : dens ps_slices_Max_int_int → Option (outs ps_slices_Max_int_int × rdens rs_slices_Max_int_int))
variable (F_impl_ceilDiv : dens ps_impl_ceilDiv → Option (outs ps_impl_ceilDiv × rdens rs_impl_ceilDiv))
abbrev w_impl_WireLength_keep : Nat → List Nat := kp []
abbrev w_impl_WireLength_cut : Nat → Bool := memC []
abbrev w_impl_WireLength_Γ : Nat → Option Sig := tab [(47, ⟨ps_impl_ChannelOk, rs_impl_ChannelOk, F_impl_ChannelOk⟩), (87, ⟨ps_impl_SymbolsFor, rs_impl_SymbolsFor, F_impl_SymbolsFor⟩), (91, ⟨ps_slices_Max_int_int, rs_slices_Max_int_int, F_slices_Max_int_int⟩), (92, ⟨ps_impl_ceilDiv, rs_impl_ceilDiv, F_impl_ceilDiv⟩)]
theorem w_impl_WireLength_0 (j : Nat) (X : dens ps_impl_WireLength) : whole Try.prog (w_impl_WireLength_Γ F_impl_ChannelOk F_impl_SymbolsFor F_slices_Max_int_int F_impl_ceilDiv) Try.f62 w_impl_WireLength_cut w_impl_WireLength_keep ps_impl_WireLength rs_impl_WireLength (j + 1) X =
    (F_impl_SymbolsFor ((X.snd.fst), ())).bind fun r0 =>
      (F_impl_ChannelOk ((X.fst), ())).bind fun r1 =>
        if (!r1.snd.fst) = true then
          some ((), ((Int.negSucc 0), ()))
        else
          if decide (r0.snd.fst < 0) = true then
            some ((), ((Int.negSucc 0), ()))
          else
            (F_slices_Max_int_int ((X.fst.snd.fst), ())).bind fun r2 =>
              (F_impl_ceilDiv ((r0.snd.fst), ((X.fst.fst.fst), ()))).bind fun r3 =>
                some ((), ((IntKind.i64.wrap (IntKind.i64.wrap (r2.snd.fst + 1) + r3.snd.fst)), ())) := by kernel_rfl
end
noncomputable def F_impl_WireLength : ((Int × Int × Int) × (List Int) × Int × Bool) × Int × Unit → Option ((Unit) × Int × Unit) := (sigOf Try.prog (w_impl_WireLength_Γ F_impl_ChannelOk F_impl_SymbolsFor F_slices_Max_int_int F_impl_ceilDiv) Try.f62 w_impl_WireLength_cut w_impl_WireLength_keep ps_impl_WireLength rs_impl_WireLength).F
theorem ok_impl_WireLength : FnOk Try.prog 62 ⟨ps_impl_WireLength, rs_impl_WireLength, F_impl_WireLength⟩ := sigOk (Γ := w_impl_WireLength_Γ F_impl_ChannelOk F_impl_SymbolsFor F_slices_Max_int_int F_impl_ceilDiv) (cut := w_impl_WireLength_cut) (keep := w_impl_WireLength_keep) (tab_cons ok_impl_ChannelOk (tab_cons ok_impl_SymbolsFor (tab_cons ok_slices_Max_int_int (tab_cons ok_impl_ceilDiv tab_nil)))) Try.func62 (by kernel_rfl) rfl
theorem F_impl_WireLength_eq (X : ((Int × Int × Int) × (List Int) × Int × Bool) × Int × Unit) : F_impl_WireLength X =
    (F_impl_SymbolsFor ((X.snd.fst), ())).bind fun r0 =>
      (F_impl_ChannelOk ((X.fst), ())).bind fun r1 =>
        if (!r1.snd.fst) = true then
          some ((), ((Int.negSucc 0), ()))
        else
          if decide (r0.snd.fst < 0) = true then
            some ((), ((Int.negSucc 0), ()))
          else
            (F_slices_Max_int_int ((X.fst.snd.fst), ())).bind fun r2 =>
              (F_impl_ceilDiv ((r0.snd.fst), ((X.fst.fst.fst), ()))).bind fun r3 =>
                some ((), ((IntKind.i64.wrap (IntKind.i64.wrap (r2.snd.fst + 1) + r3.snd.fst)), ())) := by
  show lim (fun j => whole Try.prog (w_impl_WireLength_Γ F_impl_ChannelOk F_impl_SymbolsFor F_slices_Max_int_int F_impl_ceilDiv) Try.f62 w_impl_WireLength_cut w_impl_WireLength_keep ps_impl_WireLength rs_impl_WireLength j X) = _
  rw [lim_succ (fun j r h => whole_mono j r h)]
  simp only [w_impl_WireLength_0, lim_ite, lim_bind, lim_const]
  all_goals rfl

/-! ### laws.FnExactWireLength -/
abbrev ps_laws_FnExactWireLength : List PK := [(.val true (.pair (.pair (.int .i64) (.pair (.int .i64) (.int .i64))) (.pair (.sl 3 (.int .i64)) (.pair (.int .i64) .bool)))), (.val false (.int .i64))]
abbrev rs_laws_FnExactWireLength : List RK := [(.own false .bool)]
section
variable (F_laws_szChannel : dens ps_laws_szChannel → Option (outs ps_laws_szChannel × rdens rs_laws_szChannel))
variable (F_laws_toChannel : dens ps_laws_toChannel → Option (outs ps_laws_toChannel × rdens rs_laws_toChannel))
variable (F_laws_eqChannel : dens ps_laws_eqChannel → Option (outs ps_laws_eqChannel × rdens rs_laws_eqChannel))
variable (F_spec_WireLength : dens ps_spec_WireLength → Option (outs ps_spec_WireLength × rdens rs_spec_WireLength))
variable (F_impl_WireLength : dens ps_impl_WireLength → Option (outs ps_impl_WireLength × rdens rs_impl_WireLength))
abbrev w_laws_FnExactWireLength_keep : Nat → List Nat := kp []
abbrev w_laws_FnExactWireLength_cut : Nat → Bool := memC []
abbrev w_laws_FnExactWireLength_Γ : Nat → Option Sig := tab [(44, ⟨ps_laws_szChannel, rs_laws_szChannel, F_laws_szChannel⟩), (46, ⟨ps_laws_toChannel, rs_laws_toChannel, F_laws_toChannel⟩), (48, ⟨ps_laws_eqChannel, rs_laws_eqChannel, F_laws_eqChannel⟩), (61, ⟨ps_spec_WireLength, rs_spec_WireLength, F_spec_WireLength⟩), (62, ⟨ps_impl_WireLength, rs_impl_WireLength, F_impl_WireLength⟩)]
theorem w_laws_FnExactWireLength_0 (j : Nat) (X : dens ps_laws_FnExactWireLength) : whole Try.prog (w_laws_FnExactWireLength_Γ F_laws_szChannel F_laws_toChannel F_laws_eqChannel F_spec_WireLength F_impl_WireLength) Try.f14 w_laws_FnExactWireLength_cut w_laws_FnExactWireLength_keep ps_laws_FnExactWireLength rs_laws_FnExactWireLength (j + 1) X =
    (F_laws_szChannel ((X.fst), (1048576, ()))).bind fun r0 =>
      if decide (r0.snd.fst < 0) = true then
        some ((), (true, ()))
      else
        (F_laws_toChannel ((X.fst), ())).bind fun r1 =>
          (F_spec_WireLength ((r1.snd.fst), ((X.snd.fst), ()))).bind fun r2 =>
            (F_laws_toChannel ((X.fst), ())).bind fun r3 =>
              (F_impl_WireLength ((r3.snd.fst), ((X.snd.fst), ()))).bind fun r4 =>
                if (r4.snd.fst != r2.snd.fst) = true then
                  some ((), (false, ()))
                else
                  (F_laws_toChannel ((X.fst), ())).bind fun r5 =>
                    (F_laws_eqChannel ((r3.snd.fst), ((r5.snd.fst), ()))).bind fun r6 =>
                      if (!r6.snd.fst) = true then
                        some ((), (false, ()))
                      else
                        some ((), (true, ())) := by kernel_rfl
end
noncomputable def F_laws_FnExactWireLength : ((Int × Int × Int) × (List Int) × Int × Bool) × Int × Unit → Option ((Unit) × Bool × Unit) := (sigOf Try.prog (w_laws_FnExactWireLength_Γ F_laws_szChannel F_laws_toChannel F_laws_eqChannel F_spec_WireLength F_impl_WireLength) Try.f14 w_laws_FnExactWireLength_cut w_laws_FnExactWireLength_keep ps_laws_FnExactWireLength rs_laws_FnExactWireLength).F
theorem ok_laws_FnExactWireLength : FnOk Try.prog 14 ⟨ps_laws_FnExactWireLength, rs_laws_FnExactWireLength, F_laws_FnExactWireLength⟩ := sigOk (Γ := w_laws_FnExactWireLength_Γ F_laws_szChannel F_laws_toChannel F_laws_eqChannel F_spec_WireLength F_impl_WireLength) (cut := w_laws_FnExactWireLength_cut) (keep := w_laws_FnExactWireLength_keep) (tab_cons ok_laws_szChannel (tab_cons ok_laws_toChannel (tab_cons ok_laws_eqChannel (tab_cons ok_spec_WireLength (tab_cons ok_impl_WireLength tab_nil))))) Try.func14 (by kernel_rfl) rfl
theorem F_laws_FnExactWireLength_eq (X : ((Int × Int × Int) × (List Int) × Int × Bool) × Int × Unit) : F_laws_FnExactWireLength X =
    (F_laws_szChannel ((X.fst), (1048576, ()))).bind fun r0 =>
      if decide (r0.snd.fst < 0) = true then
        some ((), (true, ()))
      else
        (F_laws_toChannel ((X.fst), ())).bind fun r1 =>
          (F_spec_WireLength ((r1.snd.fst), ((X.snd.fst), ()))).bind fun r2 =>
            (F_laws_toChannel ((X.fst), ())).bind fun r3 =>
              (F_impl_WireLength ((r3.snd.fst), ((X.snd.fst), ()))).bind fun r4 =>
                if (r4.snd.fst != r2.snd.fst) = true then
                  some ((), (false, ()))
                else
                  (F_laws_toChannel ((X.fst), ())).bind fun r5 =>
                    (F_laws_eqChannel ((r3.snd.fst), ((r5.snd.fst), ()))).bind fun r6 =>
                      if (!r6.snd.fst) = true then
                        some ((), (false, ()))
                      else
                        some ((), (true, ())) := by
  show lim (fun j => whole Try.prog (w_laws_FnExactWireLength_Γ F_laws_szChannel F_laws_toChannel F_laws_eqChannel F_spec_WireLength F_impl_WireLength) Try.f14 w_laws_FnExactWireLength_cut w_laws_FnExactWireLength_keep ps_laws_FnExactWireLength rs_laws_FnExactWireLength j X) = _
  rw [lim_succ (fun j r h => whole_mono j r h)]
  simp only [w_laws_FnExactWireLength_0, lim_ite, lim_bind, lim_const]
  all_goals rfl
end Go.Proofs.Ytceffcfnjjlbkaa.E
