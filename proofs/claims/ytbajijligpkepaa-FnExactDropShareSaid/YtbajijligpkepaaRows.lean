/-
  No cell of these rows narrows 'for every input' (looked for: loops, veiled, ifaces, maps, wideKeys, modest, calm, conditions, laid).
  DERIVED. THE GIVEN ROWS OF THIS SEAT. 12 by the template 'for every input the law returns true; each argument reads behind the call as it read before'; 0 by the template 'total and deterministic' (their statements: YtbajijligpkepaaTotals.lean).
  GIVEN WITH THE SEED: the statements are not yours to turn. If you find one false, say at which input.
  Laid BY PROGRAM, IN A SANDBOX (cutbox-rows.mjs): the forced cells as the released guide's own fill.sh prints them over the translation 6864d3b53cf08951… (all of the seat's roots in one cut). By AI agents, Wed Nov 11 2026. No macro, syntax, notation, axiom, sorry.
-/
import Derived.Test.YtbajijligpkepaaChecked
import GoSem.Claim
import GoSem.ClaimJoined
import GoSem.ClaimMapViews
import Derived.JoinedTies
import Derived.KernelRfl
namespace Go.Proofs.Ytbajijligpkepaa
/- THE CELL 'sum', in the pinned program and in every row, IS THE sha256 OF THE DUMP (.gsa) THAT YtbajijligpkepaaProg.lean LOADS. Nothing in Lean hashes anything: it is a label: what it is worth is what the hold of that sum in a sandbox is worth. -/
noncomputable def Try.pinned : Pinned := { name := "ytbajijligpkepaa", sum := "6864d3b53cf0895185eb9751f338625967ea935a6536925da4cc270a8e667483", checked := Try.checked }
namespace Rows
def none {H : Type} : Left H := { results := [], args := [] }

/-- 'laws.FnExactShownAt': WHATEVER THE INPUT: true; the input reads as it did. -/
def fnExactShownAtSpec : ChangeSpec := { name := "fnExactShownAt", fn := fun _ => fun
  | [d1, d2] => { results := [.lit (.bool true)], args := [d1, d2] }
  | _ => none }
def fnExactShownAtRow : OpenClaim := { program := "ytbajijligpkepaa", sum := "6864d3b53cf0895185eb9751f338625967ea935a6536925da4cc270a8e667483", func := "loop.example/g01312/laws.FnExactShownAt", spec := "fnExactShownAt", unfollowed := true, recurses := true, apart := false }
def FnExactShownAtSaid : Prop := fnExactShownAtRow.holds Try.pinned (OpenSpec.ofChange fnExactShownAtSpec)

/-- ITS FALSE NEIGHBOUR: 'it returns false'. Refute it at one input. -/
def fnExactShownAtWrong : ChangeSpec := { name := "fnExactShownAt", fn := fun _ => fun
  | [d1, d2] => { results := [.lit (.bool false)], args := [d1, d2] }
  | _ => none }
def FnExactShownAtWrongFalsely : Prop := fnExactShownAtRow.holds Try.pinned (OpenSpec.ofChange fnExactShownAtWrong)

/-- 'laws.FnExactJoinSchemes': WHATEVER THE INPUT: true; the input reads as it did. -/
def fnExactJoinSchemesSpec : ChangeSpec := { name := "fnExactJoinSchemes", fn := fun _ => fun
  | [d1, d2] => { results := [.lit (.bool true)], args := [d1, d2] }
  | _ => none }
def fnExactJoinSchemesRow : OpenClaim := { program := "ytbajijligpkepaa", sum := "6864d3b53cf0895185eb9751f338625967ea935a6536925da4cc270a8e667483", func := "loop.example/g01312/laws.FnExactJoinSchemes", spec := "fnExactJoinSchemes", apart := false }
def FnExactJoinSchemesSaid : Prop := fnExactJoinSchemesRow.holds Try.pinned (OpenSpec.ofChange fnExactJoinSchemesSpec)

/-- ITS FALSE NEIGHBOUR: 'it returns false'. Refute it at one input. -/
def fnExactJoinSchemesWrong : ChangeSpec := { name := "fnExactJoinSchemes", fn := fun _ => fun
  | [d1, d2] => { results := [.lit (.bool false)], args := [d1, d2] }
  | _ => none }
def FnExactJoinSchemesWrongFalsely : Prop := fnExactJoinSchemesRow.holds Try.pinned (OpenSpec.ofChange fnExactJoinSchemesWrong)

/-- 'laws.FnExactJoinParts': WHATEVER THE INPUT: true; the input reads as it did. -/
def fnExactJoinPartsSpec : ChangeSpec := { name := "fnExactJoinParts", fn := fun _ => fun
  | [d1, d2] => { results := [.lit (.bool true)], args := [d1, d2] }
  | _ => none }
def fnExactJoinPartsRow : OpenClaim := { program := "ytbajijligpkepaa", sum := "6864d3b53cf0895185eb9751f338625967ea935a6536925da4cc270a8e667483", func := "loop.example/g01312/laws.FnExactJoinParts", spec := "fnExactJoinParts", unfollowed := true, recurses := true, apart := false }
def FnExactJoinPartsSaid : Prop := fnExactJoinPartsRow.holds Try.pinned (OpenSpec.ofChange fnExactJoinPartsSpec)

/-- ITS FALSE NEIGHBOUR: 'it returns false'. Refute it at one input. -/
def fnExactJoinPartsWrong : ChangeSpec := { name := "fnExactJoinParts", fn := fun _ => fun
  | [d1, d2] => { results := [.lit (.bool false)], args := [d1, d2] }
  | _ => none }
def FnExactJoinPartsWrongFalsely : Prop := fnExactJoinPartsRow.holds Try.pinned (OpenSpec.ofChange fnExactJoinPartsWrong)

/-- 'laws.FnExactMirrorLayer': WHATEVER THE INPUT: true; the input reads as it did. -/
def fnExactMirrorLayerSpec : ChangeSpec := { name := "fnExactMirrorLayer", fn := fun _ => fun
  | [d] => { results := [.lit (.bool true)], args := [d] }
  | _ => none }
def fnExactMirrorLayerRow : OpenClaim := { program := "ytbajijligpkepaa", sum := "6864d3b53cf0895185eb9751f338625967ea935a6536925da4cc270a8e667483", func := "loop.example/g01312/laws.FnExactMirrorLayer", spec := "fnExactMirrorLayer", unfollowed := true, recurses := true, apart := false }
def FnExactMirrorLayerSaid : Prop := fnExactMirrorLayerRow.holds Try.pinned (OpenSpec.ofChange fnExactMirrorLayerSpec)

/-- ITS FALSE NEIGHBOUR: 'it returns false'. Refute it at one input. -/
def fnExactMirrorLayerWrong : ChangeSpec := { name := "fnExactMirrorLayer", fn := fun _ => fun
  | [d] => { results := [.lit (.bool false)], args := [d] }
  | _ => none }
def FnExactMirrorLayerWrongFalsely : Prop := fnExactMirrorLayerRow.holds Try.pinned (OpenSpec.ofChange fnExactMirrorLayerWrong)

/-- 'laws.FnExactTurnLayer': WHATEVER THE INPUT: true; the input reads as it did. -/
def fnExactTurnLayerSpec : ChangeSpec := { name := "fnExactTurnLayer", fn := fun _ => fun
  | [d] => { results := [.lit (.bool true)], args := [d] }
  | _ => none }
def fnExactTurnLayerRow : OpenClaim := { program := "ytbajijligpkepaa", sum := "6864d3b53cf0895185eb9751f338625967ea935a6536925da4cc270a8e667483", func := "loop.example/g01312/laws.FnExactTurnLayer", spec := "fnExactTurnLayer", unfollowed := true, recurses := true, apart := false }
def FnExactTurnLayerSaid : Prop := fnExactTurnLayerRow.holds Try.pinned (OpenSpec.ofChange fnExactTurnLayerSpec)

/-- ITS FALSE NEIGHBOUR: 'it returns false'. Refute it at one input. -/
def fnExactTurnLayerWrong : ChangeSpec := { name := "fnExactTurnLayer", fn := fun _ => fun
  | [d] => { results := [.lit (.bool false)], args := [d] }
  | _ => none }
def FnExactTurnLayerWrongFalsely : Prop := fnExactTurnLayerRow.holds Try.pinned (OpenSpec.ofChange fnExactTurnLayerWrong)

/-- 'laws.FnExactDropShare': WHATEVER THE INPUT: true; the input reads as it did. -/
def fnExactDropShareSpec : ChangeSpec := { name := "fnExactDropShare", fn := fun _ => fun
  | [d1, d2] => { results := [.lit (.bool true)], args := [d1, d2] }
  | _ => none }
def fnExactDropShareRow : OpenClaim := { program := "ytbajijligpkepaa", sum := "6864d3b53cf0895185eb9751f338625967ea935a6536925da4cc270a8e667483", func := "loop.example/g01312/laws.FnExactDropShare", spec := "fnExactDropShare", apart := false }
def FnExactDropShareSaid : Prop := fnExactDropShareRow.holds Try.pinned (OpenSpec.ofChange fnExactDropShareSpec)

/-- ITS FALSE NEIGHBOUR: 'it returns false'. Refute it at one input. -/
def fnExactDropShareWrong : ChangeSpec := { name := "fnExactDropShare", fn := fun _ => fun
  | [d1, d2] => { results := [.lit (.bool false)], args := [d1, d2] }
  | _ => none }
def FnExactDropShareWrongFalsely : Prop := fnExactDropShareRow.holds Try.pinned (OpenSpec.ofChange fnExactDropShareWrong)

/-- 'laws.FnExactSeesWith': WHATEVER THE INPUT: true; the input reads as it did. -/
def fnExactSeesWithSpec : ChangeSpec := { name := "fnExactSeesWith", fn := fun _ => fun
  | [d1, d2] => { results := [.lit (.bool true)], args := [d1, d2] }
  | _ => none }
def fnExactSeesWithRow : OpenClaim := { program := "ytbajijligpkepaa", sum := "6864d3b53cf0895185eb9751f338625967ea935a6536925da4cc270a8e667483", func := "loop.example/g01312/laws.FnExactSeesWith", spec := "fnExactSeesWith", apart := false }
def FnExactSeesWithSaid : Prop := fnExactSeesWithRow.holds Try.pinned (OpenSpec.ofChange fnExactSeesWithSpec)

/-- ITS FALSE NEIGHBOUR: 'it returns false'. Refute it at one input. -/
def fnExactSeesWithWrong : ChangeSpec := { name := "fnExactSeesWith", fn := fun _ => fun
  | [d1, d2] => { results := [.lit (.bool false)], args := [d1, d2] }
  | _ => none }
def FnExactSeesWithWrongFalsely : Prop := fnExactSeesWithRow.holds Try.pinned (OpenSpec.ofChange fnExactSeesWithWrong)

/-- 'laws.FnExactWeightOf': WHATEVER THE INPUT: true; the input reads as it did. -/
def fnExactWeightOfSpec : ChangeSpec := { name := "fnExactWeightOf", fn := fun _ => fun
  | [d1, d2, d3] => { results := [.lit (.bool true)], args := [d1, d2, d3] }
  | _ => none }
def fnExactWeightOfRow : OpenClaim := { program := "ytbajijligpkepaa", sum := "6864d3b53cf0895185eb9751f338625967ea935a6536925da4cc270a8e667483", func := "loop.example/g01312/laws.FnExactWeightOf", spec := "fnExactWeightOf", apart := false }
def FnExactWeightOfSaid : Prop := fnExactWeightOfRow.holds Try.pinned (OpenSpec.ofChange fnExactWeightOfSpec)

/-- ITS FALSE NEIGHBOUR: 'it returns false'. Refute it at one input. -/
def fnExactWeightOfWrong : ChangeSpec := { name := "fnExactWeightOf", fn := fun _ => fun
  | [d1, d2, d3] => { results := [.lit (.bool false)], args := [d1, d2, d3] }
  | _ => none }
def FnExactWeightOfWrongFalsely : Prop := fnExactWeightOfRow.holds Try.pinned (OpenSpec.ofChange fnExactWeightOfWrong)

/-- 'laws.FnExactGapOf': WHATEVER THE INPUT: true; the input reads as it did. -/
def fnExactGapOfSpec : ChangeSpec := { name := "fnExactGapOf", fn := fun _ => fun
  | [d1, d2] => { results := [.lit (.bool true)], args := [d1, d2] }
  | _ => none }
def fnExactGapOfRow : OpenClaim := { program := "ytbajijligpkepaa", sum := "6864d3b53cf0895185eb9751f338625967ea935a6536925da4cc270a8e667483", func := "loop.example/g01312/laws.FnExactGapOf", spec := "fnExactGapOf", apart := false }
def FnExactGapOfSaid : Prop := fnExactGapOfRow.holds Try.pinned (OpenSpec.ofChange fnExactGapOfSpec)

/-- ITS FALSE NEIGHBOUR: 'it returns false'. Refute it at one input. -/
def fnExactGapOfWrong : ChangeSpec := { name := "fnExactGapOf", fn := fun _ => fun
  | [d1, d2] => { results := [.lit (.bool false)], args := [d1, d2] }
  | _ => none }
def FnExactGapOfWrongFalsely : Prop := fnExactGapOfRow.holds Try.pinned (OpenSpec.ofChange fnExactGapOfWrong)

/-- 'laws.FnExactAllOf': WHATEVER THE INPUT: true; the input reads as it did. -/
def fnExactAllOfSpec : ChangeSpec := { name := "fnExactAllOf", fn := fun _ => fun
  | [d] => { results := [.lit (.bool true)], args := [d] }
  | _ => none }
def fnExactAllOfRow : OpenClaim := { program := "ytbajijligpkepaa", sum := "6864d3b53cf0895185eb9751f338625967ea935a6536925da4cc270a8e667483", func := "loop.example/g01312/laws.FnExactAllOf", spec := "fnExactAllOf", apart := false }
def FnExactAllOfSaid : Prop := fnExactAllOfRow.holds Try.pinned (OpenSpec.ofChange fnExactAllOfSpec)

/-- ITS FALSE NEIGHBOUR: 'it returns false'. Refute it at one input. -/
def fnExactAllOfWrong : ChangeSpec := { name := "fnExactAllOf", fn := fun _ => fun
  | [d] => { results := [.lit (.bool false)], args := [d] }
  | _ => none }
def FnExactAllOfWrongFalsely : Prop := fnExactAllOfRow.holds Try.pinned (OpenSpec.ofChange fnExactAllOfWrong)

/-- 'laws.FnExactShiftLayer': WHATEVER THE INPUT: true; the input reads as it did. -/
def fnExactShiftLayerSpec : ChangeSpec := { name := "fnExactShiftLayer", fn := fun _ => fun
  | [d1, d2, d3] => { results := [.lit (.bool true)], args := [d1, d2, d3] }
  | _ => none }
def fnExactShiftLayerRow : OpenClaim := { program := "ytbajijligpkepaa", sum := "6864d3b53cf0895185eb9751f338625967ea935a6536925da4cc270a8e667483", func := "loop.example/g01312/laws.FnExactShiftLayer", spec := "fnExactShiftLayer", unfollowed := true, recurses := true, apart := false }
def FnExactShiftLayerSaid : Prop := fnExactShiftLayerRow.holds Try.pinned (OpenSpec.ofChange fnExactShiftLayerSpec)

/-- ITS FALSE NEIGHBOUR: 'it returns false'. Refute it at one input. -/
def fnExactShiftLayerWrong : ChangeSpec := { name := "fnExactShiftLayer", fn := fun _ => fun
  | [d1, d2, d3] => { results := [.lit (.bool false)], args := [d1, d2, d3] }
  | _ => none }
def FnExactShiftLayerWrongFalsely : Prop := fnExactShiftLayerRow.holds Try.pinned (OpenSpec.ofChange fnExactShiftLayerWrong)

/-- 'laws.FnExactReorderShares': WHATEVER THE INPUT: true; the input reads as it did. -/
def fnExactReorderSharesSpec : ChangeSpec := { name := "fnExactReorderShares", fn := fun _ => fun
  | [d1, d2] => { results := [.lit (.bool true)], args := [d1, d2] }
  | _ => none }
def fnExactReorderSharesRow : OpenClaim := { program := "ytbajijligpkepaa", sum := "6864d3b53cf0895185eb9751f338625967ea935a6536925da4cc270a8e667483", func := "loop.example/g01312/laws.FnExactReorderShares", spec := "fnExactReorderShares", apart := false }
def FnExactReorderSharesSaid : Prop := fnExactReorderSharesRow.holds Try.pinned (OpenSpec.ofChange fnExactReorderSharesSpec)

/-- ITS FALSE NEIGHBOUR: 'it returns false'. Refute it at one input. -/
def fnExactReorderSharesWrong : ChangeSpec := { name := "fnExactReorderShares", fn := fun _ => fun
  | [d1, d2] => { results := [.lit (.bool false)], args := [d1, d2] }
  | _ => none }
def FnExactReorderSharesWrongFalsely : Prop := fnExactReorderSharesRow.holds Try.pinned (OpenSpec.ofChange fnExactReorderSharesWrong)

/- THE SECOND FORM. 'bulk': how many values and letters a reading holds, each counted each time it is reached (what is shared counts as often as it is met; a slice's spare places count too). A statement '..UptoSaid' is the law's where the arguments, and the package variables that the reading takes, are together of bulk at most 1048576: NARROWER than '..Said'. Prove '..Said' where nothing that the law and all that it calls make is longer than what came in: it says more and counts as full. Else prove '..UptoSaid'. A law counts once. -/
mutual
def uptoBulk {H : Type} : DataW H → Nat
  | .lit (.string bytes) => bytes.length + 1
  | .lit _ => 1
  | .nil => 1
  | .ptr d => uptoBulk d + 1
  | .slice elems spare => uptoBulkAll elems + uptoBulkAll spare + 1
  | .agg parts => uptoBulkAll parts + 1
  | .iface _ d => uptoBulk d + 1
  | .map entries => uptoBulkEntries entries + 1
  | .held _ => 1
def uptoBulkAll {H : Type} : List (DataW H) → Nat
  | [] => 0
  | d :: r => uptoBulk d + uptoBulkAll r
def uptoBulkEntries {H : Type} : List (Lit × DataW H) → Nat
  | [] => 0
  | x :: r => uptoBulkEntry x + uptoBulkEntries r
def uptoBulkEntry {H : Type} : Lit × DataW H → Nat
  | (.string bytes, d) => bytes.length + uptoBulk d + 1
  | (_, d) => uptoBulk d + 1
 end
def uptoSmall : (H : Type) → List (DataW H) → Bool := fun _ ds => decide (uptoBulkAll ds ≤ 1048576)
def OpenSpec.upto (s : _root_.Go.ChangeSpec) : _root_.Go.OpenSpec := { _root_.Go.OpenSpec.ofChange s with cond := some uptoSmall }

/-- 'laws.FnExactShownAt', WHERE WHAT IT READS IS OF BULK AT MOST 1048576: true; the input reads as it did. -/
def fnExactShownAtUptoRow : OpenClaim := { program := "ytbajijligpkepaa", sum := "6864d3b53cf0895185eb9751f338625967ea935a6536925da4cc270a8e667483", func := "loop.example/g01312/laws.FnExactShownAt", spec := "fnExactShownAt", unfollowed := true, recurses := true, apart := false, narrowed := true }
def FnExactShownAtUptoSaid : Prop := fnExactShownAtUptoRow.holds Try.pinned (OpenSpec.upto fnExactShownAtSpec)

/-- 'laws.FnExactJoinSchemes', WHERE WHAT IT READS IS OF BULK AT MOST 1048576: true; the input reads as it did. -/
def fnExactJoinSchemesUptoRow : OpenClaim := { program := "ytbajijligpkepaa", sum := "6864d3b53cf0895185eb9751f338625967ea935a6536925da4cc270a8e667483", func := "loop.example/g01312/laws.FnExactJoinSchemes", spec := "fnExactJoinSchemes", apart := false, narrowed := true }
def FnExactJoinSchemesUptoSaid : Prop := fnExactJoinSchemesUptoRow.holds Try.pinned (OpenSpec.upto fnExactJoinSchemesSpec)

/-- 'laws.FnExactJoinParts', WHERE WHAT IT READS IS OF BULK AT MOST 1048576: true; the input reads as it did. -/
def fnExactJoinPartsUptoRow : OpenClaim := { program := "ytbajijligpkepaa", sum := "6864d3b53cf0895185eb9751f338625967ea935a6536925da4cc270a8e667483", func := "loop.example/g01312/laws.FnExactJoinParts", spec := "fnExactJoinParts", unfollowed := true, recurses := true, apart := false, narrowed := true }
def FnExactJoinPartsUptoSaid : Prop := fnExactJoinPartsUptoRow.holds Try.pinned (OpenSpec.upto fnExactJoinPartsSpec)

/-- 'laws.FnExactMirrorLayer', WHERE WHAT IT READS IS OF BULK AT MOST 1048576: true; the input reads as it did. -/
def fnExactMirrorLayerUptoRow : OpenClaim := { program := "ytbajijligpkepaa", sum := "6864d3b53cf0895185eb9751f338625967ea935a6536925da4cc270a8e667483", func := "loop.example/g01312/laws.FnExactMirrorLayer", spec := "fnExactMirrorLayer", unfollowed := true, recurses := true, apart := false, narrowed := true }
def FnExactMirrorLayerUptoSaid : Prop := fnExactMirrorLayerUptoRow.holds Try.pinned (OpenSpec.upto fnExactMirrorLayerSpec)

/-- 'laws.FnExactTurnLayer', WHERE WHAT IT READS IS OF BULK AT MOST 1048576: true; the input reads as it did. -/
def fnExactTurnLayerUptoRow : OpenClaim := { program := "ytbajijligpkepaa", sum := "6864d3b53cf0895185eb9751f338625967ea935a6536925da4cc270a8e667483", func := "loop.example/g01312/laws.FnExactTurnLayer", spec := "fnExactTurnLayer", unfollowed := true, recurses := true, apart := false, narrowed := true }
def FnExactTurnLayerUptoSaid : Prop := fnExactTurnLayerUptoRow.holds Try.pinned (OpenSpec.upto fnExactTurnLayerSpec)

/-- 'laws.FnExactDropShare', WHERE WHAT IT READS IS OF BULK AT MOST 1048576: true; the input reads as it did. -/
def fnExactDropShareUptoRow : OpenClaim := { program := "ytbajijligpkepaa", sum := "6864d3b53cf0895185eb9751f338625967ea935a6536925da4cc270a8e667483", func := "loop.example/g01312/laws.FnExactDropShare", spec := "fnExactDropShare", apart := false, narrowed := true }
def FnExactDropShareUptoSaid : Prop := fnExactDropShareUptoRow.holds Try.pinned (OpenSpec.upto fnExactDropShareSpec)

/-- 'laws.FnExactSeesWith', WHERE WHAT IT READS IS OF BULK AT MOST 1048576: true; the input reads as it did. -/
def fnExactSeesWithUptoRow : OpenClaim := { program := "ytbajijligpkepaa", sum := "6864d3b53cf0895185eb9751f338625967ea935a6536925da4cc270a8e667483", func := "loop.example/g01312/laws.FnExactSeesWith", spec := "fnExactSeesWith", apart := false, narrowed := true }
def FnExactSeesWithUptoSaid : Prop := fnExactSeesWithUptoRow.holds Try.pinned (OpenSpec.upto fnExactSeesWithSpec)

/-- 'laws.FnExactWeightOf', WHERE WHAT IT READS IS OF BULK AT MOST 1048576: true; the input reads as it did. -/
def fnExactWeightOfUptoRow : OpenClaim := { program := "ytbajijligpkepaa", sum := "6864d3b53cf0895185eb9751f338625967ea935a6536925da4cc270a8e667483", func := "loop.example/g01312/laws.FnExactWeightOf", spec := "fnExactWeightOf", apart := false, narrowed := true }
def FnExactWeightOfUptoSaid : Prop := fnExactWeightOfUptoRow.holds Try.pinned (OpenSpec.upto fnExactWeightOfSpec)

/-- 'laws.FnExactGapOf', WHERE WHAT IT READS IS OF BULK AT MOST 1048576: true; the input reads as it did. -/
def fnExactGapOfUptoRow : OpenClaim := { program := "ytbajijligpkepaa", sum := "6864d3b53cf0895185eb9751f338625967ea935a6536925da4cc270a8e667483", func := "loop.example/g01312/laws.FnExactGapOf", spec := "fnExactGapOf", apart := false, narrowed := true }
def FnExactGapOfUptoSaid : Prop := fnExactGapOfUptoRow.holds Try.pinned (OpenSpec.upto fnExactGapOfSpec)

/-- 'laws.FnExactAllOf', WHERE WHAT IT READS IS OF BULK AT MOST 1048576: true; the input reads as it did. -/
def fnExactAllOfUptoRow : OpenClaim := { program := "ytbajijligpkepaa", sum := "6864d3b53cf0895185eb9751f338625967ea935a6536925da4cc270a8e667483", func := "loop.example/g01312/laws.FnExactAllOf", spec := "fnExactAllOf", apart := false, narrowed := true }
def FnExactAllOfUptoSaid : Prop := fnExactAllOfUptoRow.holds Try.pinned (OpenSpec.upto fnExactAllOfSpec)

/-- 'laws.FnExactShiftLayer', WHERE WHAT IT READS IS OF BULK AT MOST 1048576: true; the input reads as it did. -/
def fnExactShiftLayerUptoRow : OpenClaim := { program := "ytbajijligpkepaa", sum := "6864d3b53cf0895185eb9751f338625967ea935a6536925da4cc270a8e667483", func := "loop.example/g01312/laws.FnExactShiftLayer", spec := "fnExactShiftLayer", unfollowed := true, recurses := true, apart := false, narrowed := true }
def FnExactShiftLayerUptoSaid : Prop := fnExactShiftLayerUptoRow.holds Try.pinned (OpenSpec.upto fnExactShiftLayerSpec)

/-- 'laws.FnExactReorderShares', WHERE WHAT IT READS IS OF BULK AT MOST 1048576: true; the input reads as it did. -/
def fnExactReorderSharesUptoRow : OpenClaim := { program := "ytbajijligpkepaa", sum := "6864d3b53cf0895185eb9751f338625967ea935a6536925da4cc270a8e667483", func := "loop.example/g01312/laws.FnExactReorderShares", spec := "fnExactReorderShares", apart := false, narrowed := true }
def FnExactReorderSharesUptoSaid : Prop := fnExactReorderSharesUptoRow.holds Try.pinned (OpenSpec.upto fnExactReorderSharesSpec)

end Rows
end Go.Proofs.Ytbajijligpkepaa
