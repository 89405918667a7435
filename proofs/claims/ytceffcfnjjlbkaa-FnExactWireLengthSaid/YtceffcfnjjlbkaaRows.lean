/-
  No cell of these rows narrows 'for every input' (looked for: loops, veiled, ifaces, maps, wideKeys, modest, calm, conditions, laid).
  DERIVED. THE GIVEN ROWS OF THIS SEAT. 12 by the template 'for every input the law returns true; each argument reads behind the call as it read before'; 0 by the template 'total and deterministic' (their statements: YtceffcfnjjlbkaaTotals.lean).
  GIVEN WITH THE SEED: the statements are not yours to turn. If you find one false, say at which input.
  Laid BY PROGRAM, IN A SANDBOX (cutbox-rows.mjs): the forced cells as the released guide's own fill.sh prints them over the translation ee50ee3f450df2bc… (all of the seat's roots in one cut). By AI agents, Wed Nov 11 2026. No macro, syntax, notation, axiom, sorry.
-/
import Derived.Test.YtceffcfnjjlbkaaChecked
import GoSem.Claim
import GoSem.ClaimJoined
import GoSem.ClaimMapViews
import Derived.JoinedTies
import Derived.KernelRfl
namespace Go.Proofs.Ytceffcfnjjlbkaa
/- THE CELL 'sum', in the pinned program and in every row, IS THE sha256 OF THE DUMP (.gsa) THAT YtceffcfnjjlbkaaProg.lean LOADS. Nothing in Lean hashes anything: it is a label: what it is worth is what the hold of that sum in a sandbox is worth. -/
noncomputable def Try.pinned : Pinned := { name := "ytceffcfnjjlbkaa", sum := "ee50ee3f450df2bccc830337ff604e78069dd58f5a6da579d7818a28d5a5a60d", checked := Try.checked }
namespace Rows
def none {H : Type} : Left H := { results := [], args := [] }

/-- 'laws.FnExactConnectorOk': WHATEVER THE INPUT: true; the input reads as it did. -/
def fnExactConnectorOkSpec : ChangeSpec := { name := "fnExactConnectorOk", fn := fun _ => fun
  | [d] => { results := [.lit (.bool true)], args := [d] }
  | _ => none }
def fnExactConnectorOkRow : OpenClaim := { program := "ytceffcfnjjlbkaa", sum := "ee50ee3f450df2bccc830337ff604e78069dd58f5a6da579d7818a28d5a5a60d", func := "loop.example/g03313/laws.FnExactConnectorOk", spec := "fnExactConnectorOk", apart := false }
def FnExactConnectorOkSaid : Prop := fnExactConnectorOkRow.holds Try.pinned (OpenSpec.ofChange fnExactConnectorOkSpec)

/-- ITS FALSE NEIGHBOUR: 'it returns false'. Refute it at one input. -/
def fnExactConnectorOkWrong : ChangeSpec := { name := "fnExactConnectorOk", fn := fun _ => fun
  | [d] => { results := [.lit (.bool false)], args := [d] }
  | _ => none }
def FnExactConnectorOkWrongFalsely : Prop := fnExactConnectorOkRow.holds Try.pinned (OpenSpec.ofChange fnExactConnectorOkWrong)

/-- 'laws.FnPlugs': WHATEVER THE INPUT: true; the input reads as it did. -/
def fnPlugsSpec : ChangeSpec := { name := "fnPlugs", fn := fun _ => fun
  | [d] => { results := [.lit (.bool true)], args := [d] }
  | _ => none }
def fnPlugsRow : OpenClaim := { program := "ytceffcfnjjlbkaa", sum := "ee50ee3f450df2bccc830337ff604e78069dd58f5a6da579d7818a28d5a5a60d", func := "loop.example/g03313/laws.FnPlugs", spec := "fnPlugs", apart := false }
def FnPlugsSaid : Prop := fnPlugsRow.holds Try.pinned (OpenSpec.ofChange fnPlugsSpec)

/-- ITS FALSE NEIGHBOUR: 'it returns false'. Refute it at one input. -/
def fnPlugsWrong : ChangeSpec := { name := "fnPlugs", fn := fun _ => fun
  | [d] => { results := [.lit (.bool false)], args := [d] }
  | _ => none }
def FnPlugsWrongFalsely : Prop := fnPlugsRow.holds Try.pinned (OpenSpec.ofChange fnPlugsWrong)

/-- 'laws.FnExactHarmless': WHATEVER THE INPUT: true; the input reads as it did. -/
def fnExactHarmlessSpec : ChangeSpec := { name := "fnExactHarmless", fn := fun _ => fun
  | [d] => { results := [.lit (.bool true)], args := [d] }
  | _ => none }
def fnExactHarmlessRow : OpenClaim := { program := "ytceffcfnjjlbkaa", sum := "ee50ee3f450df2bccc830337ff604e78069dd58f5a6da579d7818a28d5a5a60d", func := "loop.example/g03313/laws.FnExactHarmless", spec := "fnExactHarmless", apart := false }
def FnExactHarmlessSaid : Prop := fnExactHarmlessRow.holds Try.pinned (OpenSpec.ofChange fnExactHarmlessSpec)

/-- ITS FALSE NEIGHBOUR: 'it returns false'. Refute it at one input. -/
def fnExactHarmlessWrong : ChangeSpec := { name := "fnExactHarmless", fn := fun _ => fun
  | [d] => { results := [.lit (.bool false)], args := [d] }
  | _ => none }
def FnExactHarmlessWrongFalsely : Prop := fnExactHarmlessRow.holds Try.pinned (OpenSpec.ofChange fnExactHarmlessWrong)

/-- 'laws.FnExactSeeLevel': WHATEVER THE INPUT: true; the input reads as it did. -/
def fnExactSeeLevelSpec : ChangeSpec := { name := "fnExactSeeLevel", fn := fun _ => fun
  | [d1, d2] => { results := [.lit (.bool true)], args := [d1, d2] }
  | _ => none }
def fnExactSeeLevelRow : OpenClaim := { program := "ytceffcfnjjlbkaa", sum := "ee50ee3f450df2bccc830337ff604e78069dd58f5a6da579d7818a28d5a5a60d", func := "loop.example/g03313/laws.FnExactSeeLevel", spec := "fnExactSeeLevel", apart := false }
def FnExactSeeLevelSaid : Prop := fnExactSeeLevelRow.holds Try.pinned (OpenSpec.ofChange fnExactSeeLevelSpec)

/-- ITS FALSE NEIGHBOUR: 'it returns false'. Refute it at one input. -/
def fnExactSeeLevelWrong : ChangeSpec := { name := "fnExactSeeLevel", fn := fun _ => fun
  | [d1, d2] => { results := [.lit (.bool false)], args := [d1, d2] }
  | _ => none }
def FnExactSeeLevelWrongFalsely : Prop := fnExactSeeLevelRow.holds Try.pinned (OpenSpec.ofChange fnExactSeeLevelWrong)

/-- 'laws.FnExactLineOf': WHATEVER THE INPUT: true; the input reads as it did. -/
def fnExactLineOfSpec : ChangeSpec := { name := "fnExactLineOf", fn := fun _ => fun
  | [d1, d2, d3, d4] => { results := [.lit (.bool true)], args := [d1, d2, d3, d4] }
  | _ => none }
def fnExactLineOfRow : OpenClaim := { program := "ytceffcfnjjlbkaa", sum := "ee50ee3f450df2bccc830337ff604e78069dd58f5a6da579d7818a28d5a5a60d", func := "loop.example/g03313/laws.FnExactLineOf", spec := "fnExactLineOf", apart := false }
def FnExactLineOfSaid : Prop := fnExactLineOfRow.holds Try.pinned (OpenSpec.ofChange fnExactLineOfSpec)

/-- ITS FALSE NEIGHBOUR: 'it returns false'. Refute it at one input. -/
def fnExactLineOfWrong : ChangeSpec := { name := "fnExactLineOf", fn := fun _ => fun
  | [d1, d2, d3, d4] => { results := [.lit (.bool false)], args := [d1, d2, d3, d4] }
  | _ => none }
def FnExactLineOfWrongFalsely : Prop := fnExactLineOfRow.holds Try.pinned (OpenSpec.ofChange fnExactLineOfWrong)

/-- 'laws.FnExactCipher': WHATEVER THE INPUT: true; the input reads as it did. -/
def fnExactCipherSpec : ChangeSpec := { name := "fnExactCipher", fn := fun _ => fun
  | [d1, d2, d3, d4] => { results := [.lit (.bool true)], args := [d1, d2, d3, d4] }
  | _ => none }
def fnExactCipherRow : OpenClaim := { program := "ytceffcfnjjlbkaa", sum := "ee50ee3f450df2bccc830337ff604e78069dd58f5a6da579d7818a28d5a5a60d", func := "loop.example/g03313/laws.FnExactCipher", spec := "fnExactCipher", apart := false }
def FnExactCipherSaid : Prop := fnExactCipherRow.holds Try.pinned (OpenSpec.ofChange fnExactCipherSpec)

/-- ITS FALSE NEIGHBOUR: 'it returns false'. Refute it at one input. -/
def fnExactCipherWrong : ChangeSpec := { name := "fnExactCipher", fn := fun _ => fun
  | [d1, d2, d3, d4] => { results := [.lit (.bool false)], args := [d1, d2, d3, d4] }
  | _ => none }
def FnExactCipherWrongFalsely : Prop := fnExactCipherRow.holds Try.pinned (OpenSpec.ofChange fnExactCipherWrong)

/-- 'laws.FnCiphers': WHATEVER THE INPUT: true; the input reads as it did. -/
def fnCiphersSpec : ChangeSpec := { name := "fnCiphers", fn := fun _ => fun
  | [d] => { results := [.lit (.bool true)], args := [d] }
  | _ => none }
def fnCiphersRow : OpenClaim := { program := "ytceffcfnjjlbkaa", sum := "ee50ee3f450df2bccc830337ff604e78069dd58f5a6da579d7818a28d5a5a60d", func := "loop.example/g03313/laws.FnCiphers", spec := "fnCiphers", apart := false }
def FnCiphersSaid : Prop := fnCiphersRow.holds Try.pinned (OpenSpec.ofChange fnCiphersSpec)

/-- ITS FALSE NEIGHBOUR: 'it returns false'. Refute it at one input. -/
def fnCiphersWrong : ChangeSpec := { name := "fnCiphers", fn := fun _ => fun
  | [d] => { results := [.lit (.bool false)], args := [d] }
  | _ => none }
def FnCiphersWrongFalsely : Prop := fnCiphersRow.holds Try.pinned (OpenSpec.ofChange fnCiphersWrong)

/-- 'laws.FnExactChannelOk': WHATEVER THE INPUT: true; the input reads as it did. -/
def fnExactChannelOkSpec : ChangeSpec := { name := "fnExactChannelOk", fn := fun _ => fun
  | [d] => { results := [.lit (.bool true)], args := [d] }
  | _ => none }
def fnExactChannelOkRow : OpenClaim := { program := "ytceffcfnjjlbkaa", sum := "ee50ee3f450df2bccc830337ff604e78069dd58f5a6da579d7818a28d5a5a60d", func := "loop.example/g03313/laws.FnExactChannelOk", spec := "fnExactChannelOk", unfollowed := true, recurses := true, apart := false }
def FnExactChannelOkSaid : Prop := fnExactChannelOkRow.holds Try.pinned (OpenSpec.ofChange fnExactChannelOkSpec)

/-- ITS FALSE NEIGHBOUR: 'it returns false'. Refute it at one input. -/
def fnExactChannelOkWrong : ChangeSpec := { name := "fnExactChannelOk", fn := fun _ => fun
  | [d] => { results := [.lit (.bool false)], args := [d] }
  | _ => none }
def FnExactChannelOkWrongFalsely : Prop := fnExactChannelOkRow.holds Try.pinned (OpenSpec.ofChange fnExactChannelOkWrong)

/-- 'laws.FnExactRefreshCost': WHATEVER THE INPUT: true; the input reads as it did. -/
def fnExactRefreshCostSpec : ChangeSpec := { name := "fnExactRefreshCost", fn := fun _ => fun
  | [d] => { results := [.lit (.bool true)], args := [d] }
  | _ => none }
def fnExactRefreshCostRow : OpenClaim := { program := "ytceffcfnjjlbkaa", sum := "ee50ee3f450df2bccc830337ff604e78069dd58f5a6da579d7818a28d5a5a60d", func := "loop.example/g03313/laws.FnExactRefreshCost", spec := "fnExactRefreshCost", apart := false }
def FnExactRefreshCostSaid : Prop := fnExactRefreshCostRow.holds Try.pinned (OpenSpec.ofChange fnExactRefreshCostSpec)

/-- ITS FALSE NEIGHBOUR: 'it returns false'. Refute it at one input. -/
def fnExactRefreshCostWrong : ChangeSpec := { name := "fnExactRefreshCost", fn := fun _ => fun
  | [d] => { results := [.lit (.bool false)], args := [d] }
  | _ => none }
def FnExactRefreshCostWrongFalsely : Prop := fnExactRefreshCostRow.holds Try.pinned (OpenSpec.ofChange fnExactRefreshCostWrong)

/-- 'laws.FnExactSeeLevels': WHATEVER THE INPUT: true; the input reads as it did. -/
def fnExactSeeLevelsSpec : ChangeSpec := { name := "fnExactSeeLevels", fn := fun _ => fun
  | [d1, d2] => { results := [.lit (.bool true)], args := [d1, d2] }
  | _ => none }
def fnExactSeeLevelsRow : OpenClaim := { program := "ytceffcfnjjlbkaa", sum := "ee50ee3f450df2bccc830337ff604e78069dd58f5a6da579d7818a28d5a5a60d", func := "loop.example/g03313/laws.FnExactSeeLevels", spec := "fnExactSeeLevels", apart := false }
def FnExactSeeLevelsSaid : Prop := fnExactSeeLevelsRow.holds Try.pinned (OpenSpec.ofChange fnExactSeeLevelsSpec)

/-- ITS FALSE NEIGHBOUR: 'it returns false'. Refute it at one input. -/
def fnExactSeeLevelsWrong : ChangeSpec := { name := "fnExactSeeLevels", fn := fun _ => fun
  | [d1, d2] => { results := [.lit (.bool false)], args := [d1, d2] }
  | _ => none }
def FnExactSeeLevelsWrongFalsely : Prop := fnExactSeeLevelsRow.holds Try.pinned (OpenSpec.ofChange fnExactSeeLevelsWrong)

/-- 'laws.FnExactPlanRefresh': WHATEVER THE INPUT: true; the input reads as it did. -/
def fnExactPlanRefreshSpec : ChangeSpec := { name := "fnExactPlanRefresh", fn := fun _ => fun
  | [d1, d2, d3, d4, d5, d6] => { results := [.lit (.bool true)], args := [d1, d2, d3, d4, d5, d6] }
  | _ => none }
def fnExactPlanRefreshRow : OpenClaim := { program := "ytceffcfnjjlbkaa", sum := "ee50ee3f450df2bccc830337ff604e78069dd58f5a6da579d7818a28d5a5a60d", func := "loop.example/g03313/laws.FnExactPlanRefresh", spec := "fnExactPlanRefresh", apart := false }
def FnExactPlanRefreshSaid : Prop := fnExactPlanRefreshRow.holds Try.pinned (OpenSpec.ofChange fnExactPlanRefreshSpec)

/-- ITS FALSE NEIGHBOUR: 'it returns false'. Refute it at one input. -/
def fnExactPlanRefreshWrong : ChangeSpec := { name := "fnExactPlanRefresh", fn := fun _ => fun
  | [d1, d2, d3, d4, d5, d6] => { results := [.lit (.bool false)], args := [d1, d2, d3, d4, d5, d6] }
  | _ => none }
def FnExactPlanRefreshWrongFalsely : Prop := fnExactPlanRefreshRow.holds Try.pinned (OpenSpec.ofChange fnExactPlanRefreshWrong)

/-- 'laws.FnExactWireLength': WHATEVER THE INPUT: true; the input reads as it did. -/
def fnExactWireLengthSpec : ChangeSpec := { name := "fnExactWireLength", fn := fun _ => fun
  | [d1, d2] => { results := [.lit (.bool true)], args := [d1, d2] }
  | _ => none }
def fnExactWireLengthRow : OpenClaim := { program := "ytceffcfnjjlbkaa", sum := "ee50ee3f450df2bccc830337ff604e78069dd58f5a6da579d7818a28d5a5a60d", func := "loop.example/g03313/laws.FnExactWireLength", spec := "fnExactWireLength", unfollowed := true, recurses := true, apart := false }
def FnExactWireLengthSaid : Prop := fnExactWireLengthRow.holds Try.pinned (OpenSpec.ofChange fnExactWireLengthSpec)

/-- ITS FALSE NEIGHBOUR: 'it returns false'. Refute it at one input. -/
def fnExactWireLengthWrong : ChangeSpec := { name := "fnExactWireLength", fn := fun _ => fun
  | [d1, d2] => { results := [.lit (.bool false)], args := [d1, d2] }
  | _ => none }
def FnExactWireLengthWrongFalsely : Prop := fnExactWireLengthRow.holds Try.pinned (OpenSpec.ofChange fnExactWireLengthWrong)

/- THE SECOND FORM. 'bulk': how many values and letters a reading holds, each counted each time it is reached (what is shared counts as often as it is met; a slice's spare places count too). A statement '..UptoSaid' is the law's where the arguments, and the package variables that the reading takes, are together of bulk at most 1048576: NARROWER than '..Said'. Prove '..Said' where nothing that the law and all that it calls make is longer than what came in: it says more and counts as full. Else prove '..UptoSaid'. A law counts once. -/
mutual
def uptoBulk {H : Type} : DataW H → Nat
  | .lit (.string bytes) => bytes.length + 1
  | .lit _ => 1
  | .nil => 1
  | .ptr d => uptoBulk d + 1
  | .slice elems spare => uptoBulkAll elems + uptoBulkAll spare + 1
  | .agg parts => uptoBulkAll parts + 1
  | .iface _ d => uptoBulk d + 1
  | .map entries => uptoBulkEntries entries + 1
  | .held _ => 1
def uptoBulkAll {H : Type} : List (DataW H) → Nat
  | [] => 0
  | d :: r => uptoBulk d + uptoBulkAll r
def uptoBulkEntries {H : Type} : List (Lit × DataW H) → Nat
  | [] => 0
  | x :: r => uptoBulkEntry x + uptoBulkEntries r
def uptoBulkEntry {H : Type} : Lit × DataW H → Nat
  | (.string bytes, d) => bytes.length + uptoBulk d + 1
  | (_, d) => uptoBulk d + 1
 end
def uptoSmall : (H : Type) → List (DataW H) → Bool := fun _ ds => decide (uptoBulkAll ds ≤ 1048576)
def OpenSpec.upto (s : _root_.Go.ChangeSpec) : _root_.Go.OpenSpec := { _root_.Go.OpenSpec.ofChange s with cond := some uptoSmall }

/-- 'laws.FnExactConnectorOk', WHERE WHAT IT READS IS OF BULK AT MOST 1048576: true; the input reads as it did. -/
def fnExactConnectorOkUptoRow : OpenClaim := { program := "ytceffcfnjjlbkaa", sum := "ee50ee3f450df2bccc830337ff604e78069dd58f5a6da579d7818a28d5a5a60d", func := "loop.example/g03313/laws.FnExactConnectorOk", spec := "fnExactConnectorOk", apart := false, narrowed := true }
def FnExactConnectorOkUptoSaid : Prop := fnExactConnectorOkUptoRow.holds Try.pinned (OpenSpec.upto fnExactConnectorOkSpec)

/-- 'laws.FnPlugs', WHERE WHAT IT READS IS OF BULK AT MOST 1048576: true; the input reads as it did. -/
def fnPlugsUptoRow : OpenClaim := { program := "ytceffcfnjjlbkaa", sum := "ee50ee3f450df2bccc830337ff604e78069dd58f5a6da579d7818a28d5a5a60d", func := "loop.example/g03313/laws.FnPlugs", spec := "fnPlugs", apart := false, narrowed := true }
def FnPlugsUptoSaid : Prop := fnPlugsUptoRow.holds Try.pinned (OpenSpec.upto fnPlugsSpec)

/-- 'laws.FnExactHarmless', WHERE WHAT IT READS IS OF BULK AT MOST 1048576: true; the input reads as it did. -/
def fnExactHarmlessUptoRow : OpenClaim := { program := "ytceffcfnjjlbkaa", sum := "ee50ee3f450df2bccc830337ff604e78069dd58f5a6da579d7818a28d5a5a60d", func := "loop.example/g03313/laws.FnExactHarmless", spec := "fnExactHarmless", apart := false, narrowed := true }
def FnExactHarmlessUptoSaid : Prop := fnExactHarmlessUptoRow.holds Try.pinned (OpenSpec.upto fnExactHarmlessSpec)

/-- 'laws.FnExactSeeLevel', WHERE WHAT IT READS IS OF BULK AT MOST 1048576: true; the input reads as it did. -/
def fnExactSeeLevelUptoRow : OpenClaim := { program := "ytceffcfnjjlbkaa", sum := "ee50ee3f450df2bccc830337ff604e78069dd58f5a6da579d7818a28d5a5a60d", func := "loop.example/g03313/laws.FnExactSeeLevel", spec := "fnExactSeeLevel", apart := false, narrowed := true }
def FnExactSeeLevelUptoSaid : Prop := fnExactSeeLevelUptoRow.holds Try.pinned (OpenSpec.upto fnExactSeeLevelSpec)

/-- 'laws.FnExactLineOf', WHERE WHAT IT READS IS OF BULK AT MOST 1048576: true; the input reads as it did. -/
def fnExactLineOfUptoRow : OpenClaim := { program := "ytceffcfnjjlbkaa", sum := "ee50ee3f450df2bccc830337ff604e78069dd58f5a6da579d7818a28d5a5a60d", func := "loop.example/g03313/laws.FnExactLineOf", spec := "fnExactLineOf", apart := false, narrowed := true }
def FnExactLineOfUptoSaid : Prop := fnExactLineOfUptoRow.holds Try.pinned (OpenSpec.upto fnExactLineOfSpec)

/-- 'laws.FnExactCipher', WHERE WHAT IT READS IS OF BULK AT MOST 1048576: true; the input reads as it did. -/
def fnExactCipherUptoRow : OpenClaim := { program := "ytceffcfnjjlbkaa", sum := "ee50ee3f450df2bccc830337ff604e78069dd58f5a6da579d7818a28d5a5a60d", func := "loop.example/g03313/laws.FnExactCipher", spec := "fnExactCipher", apart := false, narrowed := true }
def FnExactCipherUptoSaid : Prop := fnExactCipherUptoRow.holds Try.pinned (OpenSpec.upto fnExactCipherSpec)

/-- 'laws.FnCiphers', WHERE WHAT IT READS IS OF BULK AT MOST 1048576: true; the input reads as it did. -/
def fnCiphersUptoRow : OpenClaim := { program := "ytceffcfnjjlbkaa", sum := "ee50ee3f450df2bccc830337ff604e78069dd58f5a6da579d7818a28d5a5a60d", func := "loop.example/g03313/laws.FnCiphers", spec := "fnCiphers", apart := false, narrowed := true }
def FnCiphersUptoSaid : Prop := fnCiphersUptoRow.holds Try.pinned (OpenSpec.upto fnCiphersSpec)

/-- 'laws.FnExactChannelOk', WHERE WHAT IT READS IS OF BULK AT MOST 1048576: true; the input reads as it did. -/
def fnExactChannelOkUptoRow : OpenClaim := { program := "ytceffcfnjjlbkaa", sum := "ee50ee3f450df2bccc830337ff604e78069dd58f5a6da579d7818a28d5a5a60d", func := "loop.example/g03313/laws.FnExactChannelOk", spec := "fnExactChannelOk", unfollowed := true, recurses := true, apart := false, narrowed := true }
def FnExactChannelOkUptoSaid : Prop := fnExactChannelOkUptoRow.holds Try.pinned (OpenSpec.upto fnExactChannelOkSpec)

/-- 'laws.FnExactRefreshCost', WHERE WHAT IT READS IS OF BULK AT MOST 1048576: true; the input reads as it did. -/
def fnExactRefreshCostUptoRow : OpenClaim := { program := "ytceffcfnjjlbkaa", sum := "ee50ee3f450df2bccc830337ff604e78069dd58f5a6da579d7818a28d5a5a60d", func := "loop.example/g03313/laws.FnExactRefreshCost", spec := "fnExactRefreshCost", apart := false, narrowed := true }
def FnExactRefreshCostUptoSaid : Prop := fnExactRefreshCostUptoRow.holds Try.pinned (OpenSpec.upto fnExactRefreshCostSpec)

/-- 'laws.FnExactSeeLevels', WHERE WHAT IT READS IS OF BULK AT MOST 1048576: true; the input reads as it did. -/
def fnExactSeeLevelsUptoRow : OpenClaim := { program := "ytceffcfnjjlbkaa", sum := "ee50ee3f450df2bccc830337ff604e78069dd58f5a6da579d7818a28d5a5a60d", func := "loop.example/g03313/laws.FnExactSeeLevels", spec := "fnExactSeeLevels", apart := false, narrowed := true }
def FnExactSeeLevelsUptoSaid : Prop := fnExactSeeLevelsUptoRow.holds Try.pinned (OpenSpec.upto fnExactSeeLevelsSpec)

/-- 'laws.FnExactPlanRefresh', WHERE WHAT IT READS IS OF BULK AT MOST 1048576: true; the input reads as it did. -/
def fnExactPlanRefreshUptoRow : OpenClaim := { program := "ytceffcfnjjlbkaa", sum := "ee50ee3f450df2bccc830337ff604e78069dd58f5a6da579d7818a28d5a5a60d", func := "loop.example/g03313/laws.FnExactPlanRefresh", spec := "fnExactPlanRefresh", apart := false, narrowed := true }
def FnExactPlanRefreshUptoSaid : Prop := fnExactPlanRefreshUptoRow.holds Try.pinned (OpenSpec.upto fnExactPlanRefreshSpec)

/-- 'laws.FnExactWireLength', WHERE WHAT IT READS IS OF BULK AT MOST 1048576: true; the input reads as it did. -/
def fnExactWireLengthUptoRow : OpenClaim := { program := "ytceffcfnjjlbkaa", sum := "ee50ee3f450df2bccc830337ff604e78069dd58f5a6da579d7818a28d5a5a60d", func := "loop.example/g03313/laws.FnExactWireLength", spec := "fnExactWireLength", unfollowed := true, recurses := true, apart := false, narrowed := true }
def FnExactWireLengthUptoSaid : Prop := fnExactWireLengthUptoRow.holds Try.pinned (OpenSpec.upto fnExactWireLengthSpec)

end Rows
end Go.Proofs.Ytceffcfnjjlbkaa
