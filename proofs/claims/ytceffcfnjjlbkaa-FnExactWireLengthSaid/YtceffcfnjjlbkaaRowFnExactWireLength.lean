/- Whatever the input, the law FnExactWireLength returns true and its arguments read as before. No condition. -/
import Derived.Test.YtceffcfnjjlbkaaRows
import Derived.Test.YtceffcfnjjlbkaaE30
import Derived.Test.YtceffcfnjjlbkaaPlFnExactWireLength
namespace Go.Proofs.Ytceffcfnjjlbkaa.fnExactWireLength
open Go.ChangeShapes Go.WideShapes Go.ChangeAt Go.RowKit E
set_option linter.unusedVariables false
theorem own : ownKnob Try.prog.godebug = none := by kernel_rfl
theorem laidOut : laidOutB Try.prog = true := by kernel_rfl
set_option maxRecDepth 100000 in
theorem lifted (os : Os) (started : os.Started) (H : Type) (enc : TypeId × Value → H) :
    ReturnsInHanded {} Try.checked os 14 .any (Rows.fnExactWireLengthSpec.pre6 enc Try.prog Try.f14 Rows.fnExactWireLengthRow.domain false) (Rows.fnExactWireLengthSpec.post enc Try.prog Try.f14 false true false false) := by
  refine returnsInHanded_of_change_sized (C := Try.checked) own started (by kernel_rfl) Try.func14
    (ChangeSpec.witness6 (enc := enc) (C := Try.checked) false ⟨#[], #[.agg #[.int .i64 0, .int .i64 0, .int .i64 0, .slice none 0 0, .int .i64 0, .bool false], .int .i64 0], []⟩ 14 (by kernel_rfl) (by kernel_rfl) (by kernel_rfl) (by kernel_rfl)) ?_
  intro W base args ds gs before hval hW hcnd hsz _
  have hW' := hW
  obtain ⟨p, q, hA, hV, rfl, hfz, hnd⟩ := hW
  have hA : DataW.TrodAll enc Try.prog W 0 (fun _ => true) true Try.f14.params.toList args.toList ds p := hA
  obtain ⟨rfl, rfl⟩ := trodVars_none hV
  have hsz : ∀ q ∈ DataW.weightsEach Try.prog Try.f14.params.toList ds, q ≤ reachBytes := fun q hq => by
    have := List.all_eq_true.1 hsz q (by
      have e : Rows.fnExactWireLengthSpec.plain.varTypes Try.checked.prog = [] := rfl
      rw [e, List.append_nil, List.append_nil]
      exact hq)
    simpa using this
  obtain ⟨xs, hxs, hwf⟩ := open_all (pks := Law.FnExactWireLength.ps) (n := 20) (r := .any) (b0 := base) (by kernel_rfl) hA (fun j t v ht hv => hval j t v (by simpa using ht) (by simpa using hv)) hsz
  have hlen : ds.length = 2 := trodAll_len hA
  obtain ⟨d0, d1, rfl⟩ : ∃ d0 d1, ds = [d0, d1] := by
    match ds, hlen with
    | [d0, d1], _ => exact ⟨d0, d1, rfl⟩
  have hcall := (Law.FnExactWireLength.ok).calls xs Law.FnExactWireLength.o0 (true, ()) (Law.FnExactWireLength.holds xs hwf) W (inW W) (fun _ => False) args.toList (fun k hk => ⟨hk, fun h => h⟩) (fun k h => h.elim) hxs
  rw [show args.toList.toArray = args by simp] at hcall
  refine hcall.mono fun e W' hpost => ?_
  obtain ⟨rfl, bel⟩ := post_bool hpost (fun _ h => h)
  exact ⟨_, rfl, _, _, _, [], _, [], hW', trodAll_mk1 (shut_bool Try.underlying4 _), trodAll_below laidOut bel (by kernel_rfl) hA, rfl, bel.frame _, fun h => by cases h⟩
theorem over : Rows.fnExactWireLengthRow.holds Try.pinned (OpenSpec.ofChange Rows.fnExactWireLengthSpec) :=
  OpenClaim.holds_of_wide 14 Try.f14 rfl rfl rfl rfl rfl rfl rfl ⟨rfl, rfl, rfl, rfl, rfl⟩ rfl rfl rfl rfl rfl (by kernel_rfl) Try.func14 (by kernel_rfl)
    (of_decide_eq_true (by kernel_rfl)) (by unfold Func.isWrapper; first | (rw [if_pos (by decide +kernel)]; kernel_rfl) | (rw [if_neg (by decide +kernel)]; exact ⟨rfl, rfl⟩))
    (fun os started H enc _ => lifted os started H enc)
theorem proved : Rows.FnExactWireLengthSaid := over
#print axioms proved
end Go.Proofs.Ytceffcfnjjlbkaa.fnExactWireLength
namespace Go.Proofs.Ytceffcfnjjlbkaa
/-- The row, under a short name, for the claim. -/
theorem fnExactWireLength_holds : Rows.FnExactWireLengthSaid := fnExactWireLength.proved
end Go.Proofs.Ytceffcfnjjlbkaa
