/-
  No cell of these rows narrows 'for every input' (looked for: loops, veiled, ifaces, maps, wideKeys, modest, calm, conditions, laid).
  DERIVED. THE GIVEN ROWS OF THIS SEAT. 11 by the template 'for every input the law returns true; each argument reads behind the call as it read before'; 0 by the template 'total and deterministic' (their statements: YteidfholicaocaaTotals.lean).
  GIVEN WITH THE SEED: the statements are not yours to turn. If you find one false, say at which input.
  Laid BY PROGRAM, IN A SANDBOX (cutbox-rows.mjs): the forced cells as the released guide's own fill.sh prints them over the translation d66c04d71e9ce4d2… (all of the seat's roots in one cut). By AI agents, Wed Nov 11 2026. No macro, syntax, notation, axiom, sorry.
-/
import Derived.Test.YteidfholicaocaaChecked
import GoSem.Claim
import GoSem.ClaimJoined
import GoSem.ClaimMapViews
import Derived.JoinedTies
import Derived.KernelRfl
namespace Go.Proofs.Yteidfholicaocaa
/- THE CELL 'sum', in the pinned program and in every row, IS THE sha256 OF THE DUMP (.gsa) THAT YteidfholicaocaaProg.lean LOADS. Nothing in Lean hashes anything: it is a label: what it is worth is what the hold of that sum in a sandbox is worth. -/
noncomputable def Try.pinned : Pinned := { name := "yteidfholicaocaa", sum := "d66c04d71e9ce4d2f888785896ebb0db7aa5ecc4fa25abd0759873aa20a52a5c", checked := Try.checked }
namespace Rows
def none {H : Type} : Left H := { results := [], args := [] }

/-- 'laws.FnExactTurnShared': WHATEVER THE INPUT: true; the input reads as it did. -/
def fnExactTurnSharedSpec : ChangeSpec := { name := "fnExactTurnShared", fn := fun _ => fun
  | [d] => { results := [.lit (.bool true)], args := [d] }
  | _ => none }
def fnExactTurnSharedRow : OpenClaim := { program := "yteidfholicaocaa", sum := "d66c04d71e9ce4d2f888785896ebb0db7aa5ecc4fa25abd0759873aa20a52a5c", func := "loop.example/g01312/laws.FnExactTurnShared", spec := "fnExactTurnShared", unfollowed := true, recurses := true, apart := false }
def FnExactTurnSharedSaid : Prop := fnExactTurnSharedRow.holds Try.pinned (OpenSpec.ofChange fnExactTurnSharedSpec)

/-- ITS FALSE NEIGHBOUR: 'it returns false'. Refute it at one input. -/
def fnExactTurnSharedWrong : ChangeSpec := { name := "fnExactTurnShared", fn := fun _ => fun
  | [d] => { results := [.lit (.bool false)], args := [d] }
  | _ => none }
def FnExactTurnSharedWrongFalsely : Prop := fnExactTurnSharedRow.holds Try.pinned (OpenSpec.ofChange fnExactTurnSharedWrong)

/-- 'laws.FnExactJoinShared': WHATEVER THE INPUT: true; the input reads as it did. -/
def fnExactJoinSharedSpec : ChangeSpec := { name := "fnExactJoinShared", fn := fun _ => fun
  | [d1, d2] => { results := [.lit (.bool true)], args := [d1, d2] }
  | _ => none }
def fnExactJoinSharedRow : OpenClaim := { program := "yteidfholicaocaa", sum := "d66c04d71e9ce4d2f888785896ebb0db7aa5ecc4fa25abd0759873aa20a52a5c", func := "loop.example/g01312/laws.FnExactJoinShared", spec := "fnExactJoinShared", unfollowed := true, recurses := true, apart := false }
def FnExactJoinSharedSaid : Prop := fnExactJoinSharedRow.holds Try.pinned (OpenSpec.ofChange fnExactJoinSharedSpec)

/-- ITS FALSE NEIGHBOUR: 'it returns false'. Refute it at one input. -/
def fnExactJoinSharedWrong : ChangeSpec := { name := "fnExactJoinShared", fn := fun _ => fun
  | [d1, d2] => { results := [.lit (.bool false)], args := [d1, d2] }
  | _ => none }
def FnExactJoinSharedWrongFalsely : Prop := fnExactJoinSharedRow.holds Try.pinned (OpenSpec.ofChange fnExactJoinSharedWrong)

/-- 'laws.FnExactRenewLayers': WHATEVER THE INPUT: true; the input reads as it did. -/
def fnExactRenewLayersSpec : ChangeSpec := { name := "fnExactRenewLayers", fn := fun _ => fun
  | [d1, d2, d3] => { results := [.lit (.bool true)], args := [d1, d2, d3] }
  | _ => none }
def fnExactRenewLayersRow : OpenClaim := { program := "yteidfholicaocaa", sum := "d66c04d71e9ce4d2f888785896ebb0db7aa5ecc4fa25abd0759873aa20a52a5c", func := "loop.example/g01312/laws.FnExactRenewLayers", spec := "fnExactRenewLayers", apart := false }
def FnExactRenewLayersSaid : Prop := fnExactRenewLayersRow.holds Try.pinned (OpenSpec.ofChange fnExactRenewLayersSpec)

/-- ITS FALSE NEIGHBOUR: 'it returns false'. Refute it at one input. -/
def fnExactRenewLayersWrong : ChangeSpec := { name := "fnExactRenewLayers", fn := fun _ => fun
  | [d1, d2, d3] => { results := [.lit (.bool false)], args := [d1, d2, d3] }
  | _ => none }
def FnExactRenewLayersWrongFalsely : Prop := fnExactRenewLayersRow.holds Try.pinned (OpenSpec.ofChange fnExactRenewLayersWrong)

/-- 'laws.FnExactReadWith': WHATEVER THE INPUT: true; the input reads as it did. -/
def fnExactReadWithSpec : ChangeSpec := { name := "fnExactReadWith", fn := fun _ => fun
  | [d1, d2, d3] => { results := [.lit (.bool true)], args := [d1, d2, d3] }
  | _ => none }
def fnExactReadWithRow : OpenClaim := { program := "yteidfholicaocaa", sum := "d66c04d71e9ce4d2f888785896ebb0db7aa5ecc4fa25abd0759873aa20a52a5c", func := "loop.example/g01312/laws.FnExactReadWith", spec := "fnExactReadWith", unfollowed := true, recurses := true, apart := false }
def FnExactReadWithSaid : Prop := fnExactReadWithRow.holds Try.pinned (OpenSpec.ofChange fnExactReadWithSpec)

/-- ITS FALSE NEIGHBOUR: 'it returns false'. Refute it at one input. -/
def fnExactReadWithWrong : ChangeSpec := { name := "fnExactReadWith", fn := fun _ => fun
  | [d1, d2, d3] => { results := [.lit (.bool false)], args := [d1, d2, d3] }
  | _ => none }
def FnExactReadWithWrongFalsely : Prop := fnExactReadWithRow.holds Try.pinned (OpenSpec.ofChange fnExactReadWithWrong)

/-- 'laws.FnExactAlikeSchemes': WHATEVER THE INPUT: true; the input reads as it did. -/
def fnExactAlikeSchemesSpec : ChangeSpec := { name := "fnExactAlikeSchemes", fn := fun _ => fun
  | [d1, d2] => { results := [.lit (.bool true)], args := [d1, d2] }
  | _ => none }
def fnExactAlikeSchemesRow : OpenClaim := { program := "yteidfholicaocaa", sum := "d66c04d71e9ce4d2f888785896ebb0db7aa5ecc4fa25abd0759873aa20a52a5c", func := "loop.example/g01312/laws.FnExactAlikeSchemes", spec := "fnExactAlikeSchemes", unfollowed := true, recurses := true, apart := false }
def FnExactAlikeSchemesSaid : Prop := fnExactAlikeSchemesRow.holds Try.pinned (OpenSpec.ofChange fnExactAlikeSchemesSpec)

/-- ITS FALSE NEIGHBOUR: 'it returns false'. Refute it at one input. -/
def fnExactAlikeSchemesWrong : ChangeSpec := { name := "fnExactAlikeSchemes", fn := fun _ => fun
  | [d1, d2] => { results := [.lit (.bool false)], args := [d1, d2] }
  | _ => none }
def FnExactAlikeSchemesWrongFalsely : Prop := fnExactAlikeSchemesRow.holds Try.pinned (OpenSpec.ofChange fnExactAlikeSchemesWrong)

/-- 'laws.FnExactLearnsNothing': WHATEVER THE INPUT: true; the input reads as it did. -/
def fnExactLearnsNothingSpec : ChangeSpec := { name := "fnExactLearnsNothing", fn := fun _ => fun
  | [d1, d2] => { results := [.lit (.bool true)], args := [d1, d2] }
  | _ => none }
def fnExactLearnsNothingRow : OpenClaim := { program := "yteidfholicaocaa", sum := "d66c04d71e9ce4d2f888785896ebb0db7aa5ecc4fa25abd0759873aa20a52a5c", func := "loop.example/g01312/laws.FnExactLearnsNothing", spec := "fnExactLearnsNothing", unfollowed := true, recurses := true, apart := false }
def FnExactLearnsNothingSaid : Prop := fnExactLearnsNothingRow.holds Try.pinned (OpenSpec.ofChange fnExactLearnsNothingSpec)

/-- ITS FALSE NEIGHBOUR: 'it returns false'. Refute it at one input. -/
def fnExactLearnsNothingWrong : ChangeSpec := { name := "fnExactLearnsNothing", fn := fun _ => fun
  | [d1, d2] => { results := [.lit (.bool false)], args := [d1, d2] }
  | _ => none }
def FnExactLearnsNothingWrongFalsely : Prop := fnExactLearnsNothingRow.holds Try.pinned (OpenSpec.ofChange fnExactLearnsNothingWrong)

/-- 'laws.FnExactSortScheme': WHATEVER THE INPUT: true; the input reads as it did. -/
def fnExactSortSchemeSpec : ChangeSpec := { name := "fnExactSortScheme", fn := fun _ => fun
  | [d] => { results := [.lit (.bool true)], args := [d] }
  | _ => none }
def fnExactSortSchemeRow : OpenClaim := { program := "yteidfholicaocaa", sum := "d66c04d71e9ce4d2f888785896ebb0db7aa5ecc4fa25abd0759873aa20a52a5c", func := "loop.example/g01312/laws.FnExactSortScheme", spec := "fnExactSortScheme", unfollowed := true, recurses := true, apart := false }
def FnExactSortSchemeSaid : Prop := fnExactSortSchemeRow.holds Try.pinned (OpenSpec.ofChange fnExactSortSchemeSpec)

/-- ITS FALSE NEIGHBOUR: 'it returns false'. Refute it at one input. -/
def fnExactSortSchemeWrong : ChangeSpec := { name := "fnExactSortScheme", fn := fun _ => fun
  | [d] => { results := [.lit (.bool false)], args := [d] }
  | _ => none }
def FnExactSortSchemeWrongFalsely : Prop := fnExactSortSchemeRow.holds Try.pinned (OpenSpec.ofChange fnExactSortSchemeWrong)

/-- 'laws.FnExactBlindSets': WHATEVER THE INPUT: true; the input reads as it did. -/
def fnExactBlindSetsSpec : ChangeSpec := { name := "fnExactBlindSets", fn := fun _ => fun
  | [d] => { results := [.lit (.bool true)], args := [d] }
  | _ => none }
def fnExactBlindSetsRow : OpenClaim := { program := "yteidfholicaocaa", sum := "d66c04d71e9ce4d2f888785896ebb0db7aa5ecc4fa25abd0759873aa20a52a5c", func := "loop.example/g01312/laws.FnExactBlindSets", spec := "fnExactBlindSets", unfollowed := true, recurses := true, apart := false }
def FnExactBlindSetsSaid : Prop := fnExactBlindSetsRow.holds Try.pinned (OpenSpec.ofChange fnExactBlindSetsSpec)

/-- ITS FALSE NEIGHBOUR: 'it returns false'. Refute it at one input. -/
def fnExactBlindSetsWrong : ChangeSpec := { name := "fnExactBlindSets", fn := fun _ => fun
  | [d] => { results := [.lit (.bool false)], args := [d] }
  | _ => none }
def FnExactBlindSetsWrongFalsely : Prop := fnExactBlindSetsRow.holds Try.pinned (OpenSpec.ofChange fnExactBlindSetsWrong)

/-- 'laws.FnExactIsSound': WHATEVER THE INPUT: true; the input reads as it did. -/
def fnExactIsSoundSpec : ChangeSpec := { name := "fnExactIsSound", fn := fun _ => fun
  | [d] => { results := [.lit (.bool true)], args := [d] }
  | _ => none }
def fnExactIsSoundRow : OpenClaim := { program := "yteidfholicaocaa", sum := "d66c04d71e9ce4d2f888785896ebb0db7aa5ecc4fa25abd0759873aa20a52a5c", func := "loop.example/g01312/laws.FnExactIsSound", spec := "fnExactIsSound", unfollowed := true, recurses := true, apart := false }
def FnExactIsSoundSaid : Prop := fnExactIsSoundRow.holds Try.pinned (OpenSpec.ofChange fnExactIsSoundSpec)

/-- ITS FALSE NEIGHBOUR: 'it returns false'. Refute it at one input. -/
def fnExactIsSoundWrong : ChangeSpec := { name := "fnExactIsSound", fn := fun _ => fun
  | [d] => { results := [.lit (.bool false)], args := [d] }
  | _ => none }
def FnExactIsSoundWrongFalsely : Prop := fnExactIsSoundRow.holds Try.pinned (OpenSpec.ofChange fnExactIsSoundWrong)

/-- 'laws.FnExactCancelColumns': WHATEVER THE INPUT: true; the input reads as it did. -/
def fnExactCancelColumnsSpec : ChangeSpec := { name := "fnExactCancelColumns", fn := fun _ => fun
  | [d] => { results := [.lit (.bool true)], args := [d] }
  | _ => none }
def fnExactCancelColumnsRow : OpenClaim := { program := "yteidfholicaocaa", sum := "d66c04d71e9ce4d2f888785896ebb0db7aa5ecc4fa25abd0759873aa20a52a5c", func := "loop.example/g01312/laws.FnExactCancelColumns", spec := "fnExactCancelColumns", unfollowed := true, recurses := true, apart := false }
def FnExactCancelColumnsSaid : Prop := fnExactCancelColumnsRow.holds Try.pinned (OpenSpec.ofChange fnExactCancelColumnsSpec)

/-- ITS FALSE NEIGHBOUR: 'it returns false'. Refute it at one input. -/
def fnExactCancelColumnsWrong : ChangeSpec := { name := "fnExactCancelColumns", fn := fun _ => fun
  | [d] => { results := [.lit (.bool false)], args := [d] }
  | _ => none }
def FnExactCancelColumnsWrongFalsely : Prop := fnExactCancelColumnsRow.holds Try.pinned (OpenSpec.ofChange fnExactCancelColumnsWrong)

/-- 'laws.FnExactColumnsAt': WHATEVER THE INPUT: true; the input reads as it did. -/
def fnExactColumnsAtSpec : ChangeSpec := { name := "fnExactColumnsAt", fn := fun _ => fun
  | [d1, d2] => { results := [.lit (.bool true)], args := [d1, d2] }
  | _ => none }
def fnExactColumnsAtRow : OpenClaim := { program := "yteidfholicaocaa", sum := "d66c04d71e9ce4d2f888785896ebb0db7aa5ecc4fa25abd0759873aa20a52a5c", func := "loop.example/g01312/laws.FnExactColumnsAt", spec := "fnExactColumnsAt", unfollowed := true, recurses := true, apart := false }
def FnExactColumnsAtSaid : Prop := fnExactColumnsAtRow.holds Try.pinned (OpenSpec.ofChange fnExactColumnsAtSpec)

/-- ITS FALSE NEIGHBOUR: 'it returns false'. Refute it at one input. -/
def fnExactColumnsAtWrong : ChangeSpec := { name := "fnExactColumnsAt", fn := fun _ => fun
  | [d1, d2] => { results := [.lit (.bool false)], args := [d1, d2] }
  | _ => none }
def FnExactColumnsAtWrongFalsely : Prop := fnExactColumnsAtRow.holds Try.pinned (OpenSpec.ofChange fnExactColumnsAtWrong)

/- THE SECOND FORM. 'bulk': how many values and letters a reading holds, each counted each time it is reached (what is shared counts as often as it is met; a slice's spare places count too). A statement '..UptoSaid' is the law's where the arguments, and the package variables that the reading takes, are together of bulk at most 1048576: NARROWER than '..Said'. Prove '..Said' where nothing that the law and all that it calls make is longer than what came in: it says more and counts as full. Else prove '..UptoSaid'. A law counts once. -/
mutual
def uptoBulk {H : Type} : DataW H → Nat
  | .lit (.string bytes) => bytes.length + 1
  | .lit _ => 1
  | .nil => 1
  | .ptr d => uptoBulk d + 1
  | .slice elems spare => uptoBulkAll elems + uptoBulkAll spare + 1
  | .agg parts => uptoBulkAll parts + 1
  | .iface _ d => uptoBulk d + 1
  | .map entries => uptoBulkEntries entries + 1
  | .held _ => 1
def uptoBulkAll {H : Type} : List (DataW H) → Nat
  | [] => 0
  | d :: r => uptoBulk d + uptoBulkAll r
def uptoBulkEntries {H : Type} : List (Lit × DataW H) → Nat
  | [] => 0
  | x :: r => uptoBulkEntry x + uptoBulkEntries r
def uptoBulkEntry {H : Type} : Lit × DataW H → Nat
  | (.string bytes, d) => bytes.length + uptoBulk d + 1
  | (_, d) => uptoBulk d + 1
 end
def uptoSmall : (H : Type) → List (DataW H) → Bool := fun _ ds => decide (uptoBulkAll ds ≤ 1048576)
def OpenSpec.upto (s : _root_.Go.ChangeSpec) : _root_.Go.OpenSpec := { _root_.Go.OpenSpec.ofChange s with cond := some uptoSmall }

/-- 'laws.FnExactTurnShared', WHERE WHAT IT READS IS OF BULK AT MOST 1048576: true; the input reads as it did. -/
def fnExactTurnSharedUptoRow : OpenClaim := { program := "yteidfholicaocaa", sum := "d66c04d71e9ce4d2f888785896ebb0db7aa5ecc4fa25abd0759873aa20a52a5c", func := "loop.example/g01312/laws.FnExactTurnShared", spec := "fnExactTurnShared", unfollowed := true, recurses := true, apart := false, narrowed := true }
def FnExactTurnSharedUptoSaid : Prop := fnExactTurnSharedUptoRow.holds Try.pinned (OpenSpec.upto fnExactTurnSharedSpec)

/-- 'laws.FnExactJoinShared', WHERE WHAT IT READS IS OF BULK AT MOST 1048576: true; the input reads as it did. -/
def fnExactJoinSharedUptoRow : OpenClaim := { program := "yteidfholicaocaa", sum := "d66c04d71e9ce4d2f888785896ebb0db7aa5ecc4fa25abd0759873aa20a52a5c", func := "loop.example/g01312/laws.FnExactJoinShared", spec := "fnExactJoinShared", unfollowed := true, recurses := true, apart := false, narrowed := true }
def FnExactJoinSharedUptoSaid : Prop := fnExactJoinSharedUptoRow.holds Try.pinned (OpenSpec.upto fnExactJoinSharedSpec)

/-- 'laws.FnExactRenewLayers', WHERE WHAT IT READS IS OF BULK AT MOST 1048576: true; the input reads as it did. -/
def fnExactRenewLayersUptoRow : OpenClaim := { program := "yteidfholicaocaa", sum := "d66c04d71e9ce4d2f888785896ebb0db7aa5ecc4fa25abd0759873aa20a52a5c", func := "loop.example/g01312/laws.FnExactRenewLayers", spec := "fnExactRenewLayers", apart := false, narrowed := true }
def FnExactRenewLayersUptoSaid : Prop := fnExactRenewLayersUptoRow.holds Try.pinned (OpenSpec.upto fnExactRenewLayersSpec)

/-- 'laws.FnExactReadWith', WHERE WHAT IT READS IS OF BULK AT MOST 1048576: true; the input reads as it did. -/
def fnExactReadWithUptoRow : OpenClaim := { program := "yteidfholicaocaa", sum := "d66c04d71e9ce4d2f888785896ebb0db7aa5ecc4fa25abd0759873aa20a52a5c", func := "loop.example/g01312/laws.FnExactReadWith", spec := "fnExactReadWith", unfollowed := true, recurses := true, apart := false, narrowed := true }
def FnExactReadWithUptoSaid : Prop := fnExactReadWithUptoRow.holds Try.pinned (OpenSpec.upto fnExactReadWithSpec)

/-- 'laws.FnExactAlikeSchemes', WHERE WHAT IT READS IS OF BULK AT MOST 1048576: true; the input reads as it did. -/
def fnExactAlikeSchemesUptoRow : OpenClaim := { program := "yteidfholicaocaa", sum := "d66c04d71e9ce4d2f888785896ebb0db7aa5ecc4fa25abd0759873aa20a52a5c", func := "loop.example/g01312/laws.FnExactAlikeSchemes", spec := "fnExactAlikeSchemes", unfollowed := true, recurses := true, apart := false, narrowed := true }
def FnExactAlikeSchemesUptoSaid : Prop := fnExactAlikeSchemesUptoRow.holds Try.pinned (OpenSpec.upto fnExactAlikeSchemesSpec)

/-- 'laws.FnExactLearnsNothing', WHERE WHAT IT READS IS OF BULK AT MOST 1048576: true; the input reads as it did. -/
def fnExactLearnsNothingUptoRow : OpenClaim := { program := "yteidfholicaocaa", sum := "d66c04d71e9ce4d2f888785896ebb0db7aa5ecc4fa25abd0759873aa20a52a5c", func := "loop.example/g01312/laws.FnExactLearnsNothing", spec := "fnExactLearnsNothing", unfollowed := true, recurses := true, apart := false, narrowed := true }
def FnExactLearnsNothingUptoSaid : Prop := fnExactLearnsNothingUptoRow.holds Try.pinned (OpenSpec.upto fnExactLearnsNothingSpec)

/-- 'laws.FnExactSortScheme', WHERE WHAT IT READS IS OF BULK AT MOST 1048576: true; the input reads as it did. -/
def fnExactSortSchemeUptoRow : OpenClaim := { program := "yteidfholicaocaa", sum := "d66c04d71e9ce4d2f888785896ebb0db7aa5ecc4fa25abd0759873aa20a52a5c", func := "loop.example/g01312/laws.FnExactSortScheme", spec := "fnExactSortScheme", unfollowed := true, recurses := true, apart := false, narrowed := true }
def FnExactSortSchemeUptoSaid : Prop := fnExactSortSchemeUptoRow.holds Try.pinned (OpenSpec.upto fnExactSortSchemeSpec)

/-- 'laws.FnExactBlindSets', WHERE WHAT IT READS IS OF BULK AT MOST 1048576: true; the input reads as it did. -/
def fnExactBlindSetsUptoRow : OpenClaim := { program := "yteidfholicaocaa", sum := "d66c04d71e9ce4d2f888785896ebb0db7aa5ecc4fa25abd0759873aa20a52a5c", func := "loop.example/g01312/laws.FnExactBlindSets", spec := "fnExactBlindSets", unfollowed := true, recurses := true, apart := false, narrowed := true }
def FnExactBlindSetsUptoSaid : Prop := fnExactBlindSetsUptoRow.holds Try.pinned (OpenSpec.upto fnExactBlindSetsSpec)

/-- 'laws.FnExactIsSound', WHERE WHAT IT READS IS OF BULK AT MOST 1048576: true; the input reads as it did. -/
def fnExactIsSoundUptoRow : OpenClaim := { program := "yteidfholicaocaa", sum := "d66c04d71e9ce4d2f888785896ebb0db7aa5ecc4fa25abd0759873aa20a52a5c", func := "loop.example/g01312/laws.FnExactIsSound", spec := "fnExactIsSound", unfollowed := true, recurses := true, apart := false, narrowed := true }
def FnExactIsSoundUptoSaid : Prop := fnExactIsSoundUptoRow.holds Try.pinned (OpenSpec.upto fnExactIsSoundSpec)

/-- 'laws.FnExactCancelColumns', WHERE WHAT IT READS IS OF BULK AT MOST 1048576: true; the input reads as it did. -/
def fnExactCancelColumnsUptoRow : OpenClaim := { program := "yteidfholicaocaa", sum := "d66c04d71e9ce4d2f888785896ebb0db7aa5ecc4fa25abd0759873aa20a52a5c", func := "loop.example/g01312/laws.FnExactCancelColumns", spec := "fnExactCancelColumns", unfollowed := true, recurses := true, apart := false, narrowed := true }
def FnExactCancelColumnsUptoSaid : Prop := fnExactCancelColumnsUptoRow.holds Try.pinned (OpenSpec.upto fnExactCancelColumnsSpec)

/-- 'laws.FnExactColumnsAt', WHERE WHAT IT READS IS OF BULK AT MOST 1048576: true; the input reads as it did. -/
def fnExactColumnsAtUptoRow : OpenClaim := { program := "yteidfholicaocaa", sum := "d66c04d71e9ce4d2f888785896ebb0db7aa5ecc4fa25abd0759873aa20a52a5c", func := "loop.example/g01312/laws.FnExactColumnsAt", spec := "fnExactColumnsAt", unfollowed := true, recurses := true, apart := false, narrowed := true }
def FnExactColumnsAtUptoSaid : Prop := fnExactColumnsAtUptoRow.holds Try.pinned (OpenSpec.upto fnExactColumnsAtSpec)

end Rows
end Go.Proofs.Yteidfholicaocaa
