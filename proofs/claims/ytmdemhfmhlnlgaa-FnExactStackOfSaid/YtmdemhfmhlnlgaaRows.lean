/-
  No cell of these rows narrows 'for every input' (looked for: loops, veiled, ifaces, maps, wideKeys, modest, calm, conditions, laid).
  DERIVED. THE GIVEN ROWS OF THIS SEAT. 12 by the template 'for every input the law returns true; each argument reads behind the call as it read before'; 0 by the template 'total and deterministic' (their statements: YtmdemhfmhlnlgaaTotals.lean).
  GIVEN WITH THE SEED: the statements are not yours to turn. If you find one false, say at which input.
  Laid BY PROGRAM, IN A SANDBOX (cutbox-rows.mjs): the forced cells as the released guide's own fill.sh prints them over the translation f59b0e131f8ecec0… (all of the seat's roots in one cut). By AI agents, Wed Nov 11 2026. No macro, syntax, notation, axiom, sorry.
-/
import Derived.Test.YtmdemhfmhlnlgaaChecked
import GoSem.Claim
import GoSem.ClaimJoined
import GoSem.ClaimMapViews
import Derived.JoinedTies
import Derived.KernelRfl
namespace Go.Proofs.Ytmdemhfmhlnlgaa
/- THE CELL 'sum', in the pinned program and in every row, IS THE sha256 OF THE DUMP (.gsa) THAT YtmdemhfmhlnlgaaProg.lean LOADS. Nothing in Lean hashes anything: it is a label: what it is worth is what the hold of that sum in a sandbox is worth. -/
noncomputable def Try.pinned : Pinned := { name := "ytmdemhfmhlnlgaa", sum := "f59b0e131f8ecec01bc8a39c474fda5b7523977cf9c5930728436496f7e91024", checked := Try.checked }
namespace Rows
def none {H : Type} : Left H := { results := [], args := [] }

/-- 'laws.FnExactCountBlack': WHATEVER THE INPUT: true; the input reads as it did. -/
def fnExactCountBlackSpec : ChangeSpec := { name := "fnExactCountBlack", fn := fun _ => fun
  | [d] => { results := [.lit (.bool true)], args := [d] }
  | _ => none }
def fnExactCountBlackRow : OpenClaim := { program := "ytmdemhfmhlnlgaa", sum := "f59b0e131f8ecec01bc8a39c474fda5b7523977cf9c5930728436496f7e91024", func := "loop.example/g01312/laws.FnExactCountBlack", spec := "fnExactCountBlack", apart := false }
def FnExactCountBlackSaid : Prop := fnExactCountBlackRow.holds Try.pinned (OpenSpec.ofChange fnExactCountBlackSpec)

/-- ITS FALSE NEIGHBOUR: 'it returns false'. Refute it at one input. -/
def fnExactCountBlackWrong : ChangeSpec := { name := "fnExactCountBlack", fn := fun _ => fun
  | [d] => { results := [.lit (.bool false)], args := [d] }
  | _ => none }
def FnExactCountBlackWrongFalsely : Prop := fnExactCountBlackRow.holds Try.pinned (OpenSpec.ofChange fnExactCountBlackWrong)

/-- 'laws.FnExactSameLayers': WHATEVER THE INPUT: true; the input reads as it did. -/
def fnExactSameLayersSpec : ChangeSpec := { name := "fnExactSameLayers", fn := fun _ => fun
  | [d1, d2] => { results := [.lit (.bool true)], args := [d1, d2] }
  | _ => none }
def fnExactSameLayersRow : OpenClaim := { program := "ytmdemhfmhlnlgaa", sum := "f59b0e131f8ecec01bc8a39c474fda5b7523977cf9c5930728436496f7e91024", func := "loop.example/g01312/laws.FnExactSameLayers", spec := "fnExactSameLayers", apart := false }
def FnExactSameLayersSaid : Prop := fnExactSameLayersRow.holds Try.pinned (OpenSpec.ofChange fnExactSameLayersSpec)

/-- ITS FALSE NEIGHBOUR: 'it returns false'. Refute it at one input. -/
def fnExactSameLayersWrong : ChangeSpec := { name := "fnExactSameLayers", fn := fun _ => fun
  | [d1, d2] => { results := [.lit (.bool false)], args := [d1, d2] }
  | _ => none }
def FnExactSameLayersWrongFalsely : Prop := fnExactSameLayersRow.holds Try.pinned (OpenSpec.ofChange fnExactSameLayersWrong)

/-- 'laws.FnExactNextOrder': WHATEVER THE INPUT: true; the input reads as it did. -/
def fnExactNextOrderSpec : ChangeSpec := { name := "fnExactNextOrder", fn := fun _ => fun
  | [d1, d2] => { results := [.lit (.bool true)], args := [d1, d2] }
  | _ => none }
def fnExactNextOrderRow : OpenClaim := { program := "ytmdemhfmhlnlgaa", sum := "f59b0e131f8ecec01bc8a39c474fda5b7523977cf9c5930728436496f7e91024", func := "loop.example/g01312/laws.FnExactNextOrder", spec := "fnExactNextOrder", apart := false }
def FnExactNextOrderSaid : Prop := fnExactNextOrderRow.holds Try.pinned (OpenSpec.ofChange fnExactNextOrderSpec)

/-- ITS FALSE NEIGHBOUR: 'it returns false'. Refute it at one input. -/
def fnExactNextOrderWrong : ChangeSpec := { name := "fnExactNextOrder", fn := fun _ => fun
  | [d1, d2] => { results := [.lit (.bool false)], args := [d1, d2] }
  | _ => none }
def FnExactNextOrderWrongFalsely : Prop := fnExactNextOrderRow.holds Try.pinned (OpenSpec.ofChange fnExactNextOrderWrong)

/-- 'laws.FnExactAllOf': WHATEVER THE INPUT: true; the input reads as it did. -/
def fnExactAllOfSpec : ChangeSpec := { name := "fnExactAllOf", fn := fun _ => fun
  | [d] => { results := [.lit (.bool true)], args := [d] }
  | _ => none }
def fnExactAllOfRow : OpenClaim := { program := "ytmdemhfmhlnlgaa", sum := "f59b0e131f8ecec01bc8a39c474fda5b7523977cf9c5930728436496f7e91024", func := "loop.example/g01312/laws.FnExactAllOf", spec := "fnExactAllOf", apart := false }
def FnExactAllOfSaid : Prop := fnExactAllOfRow.holds Try.pinned (OpenSpec.ofChange fnExactAllOfSpec)

/-- ITS FALSE NEIGHBOUR: 'it returns false'. Refute it at one input. -/
def fnExactAllOfWrong : ChangeSpec := { name := "fnExactAllOf", fn := fun _ => fun
  | [d] => { results := [.lit (.bool false)], args := [d] }
  | _ => none }
def FnExactAllOfWrongFalsely : Prop := fnExactAllOfRow.holds Try.pinned (OpenSpec.ofChange fnExactAllOfWrong)

/-- 'laws.FnExactReorderShares': WHATEVER THE INPUT: true; the input reads as it did. -/
def fnExactReorderSharesSpec : ChangeSpec := { name := "fnExactReorderShares", fn := fun _ => fun
  | [d1, d2] => { results := [.lit (.bool true)], args := [d1, d2] }
  | _ => none }
def fnExactReorderSharesRow : OpenClaim := { program := "ytmdemhfmhlnlgaa", sum := "f59b0e131f8ecec01bc8a39c474fda5b7523977cf9c5930728436496f7e91024", func := "loop.example/g01312/laws.FnExactReorderShares", spec := "fnExactReorderShares", apart := false }
def FnExactReorderSharesSaid : Prop := fnExactReorderSharesRow.holds Try.pinned (OpenSpec.ofChange fnExactReorderSharesSpec)

/-- ITS FALSE NEIGHBOUR: 'it returns false'. Refute it at one input. -/
def fnExactReorderSharesWrong : ChangeSpec := { name := "fnExactReorderShares", fn := fun _ => fun
  | [d1, d2] => { results := [.lit (.bool false)], args := [d1, d2] }
  | _ => none }
def FnExactReorderSharesWrongFalsely : Prop := fnExactReorderSharesRow.holds Try.pinned (OpenSpec.ofChange fnExactReorderSharesWrong)

/-- 'laws.FnExactColumnsOf': WHATEVER THE INPUT: true; the input reads as it did. -/
def fnExactColumnsOfSpec : ChangeSpec := { name := "fnExactColumnsOf", fn := fun _ => fun
  | [d1, d2, d3] => { results := [.lit (.bool true)], args := [d1, d2, d3] }
  | _ => none }
def fnExactColumnsOfRow : OpenClaim := { program := "ytmdemhfmhlnlgaa", sum := "f59b0e131f8ecec01bc8a39c474fda5b7523977cf9c5930728436496f7e91024", func := "loop.example/g01312/laws.FnExactColumnsOf", spec := "fnExactColumnsOf", apart := false }
def FnExactColumnsOfSaid : Prop := fnExactColumnsOfRow.holds Try.pinned (OpenSpec.ofChange fnExactColumnsOfSpec)

/-- ITS FALSE NEIGHBOUR: 'it returns false'. Refute it at one input. -/
def fnExactColumnsOfWrong : ChangeSpec := { name := "fnExactColumnsOf", fn := fun _ => fun
  | [d1, d2, d3] => { results := [.lit (.bool false)], args := [d1, d2, d3] }
  | _ => none }
def FnExactColumnsOfWrongFalsely : Prop := fnExactColumnsOfRow.holds Try.pinned (OpenSpec.ofChange fnExactColumnsOfWrong)

/-- 'laws.FnExactReorderParts': WHATEVER THE INPUT: true; the input reads as it did. -/
def fnExactReorderPartsSpec : ChangeSpec := { name := "fnExactReorderParts", fn := fun _ => fun
  | [d1, d2] => { results := [.lit (.bool true)], args := [d1, d2] }
  | _ => none }
def fnExactReorderPartsRow : OpenClaim := { program := "ytmdemhfmhlnlgaa", sum := "f59b0e131f8ecec01bc8a39c474fda5b7523977cf9c5930728436496f7e91024", func := "loop.example/g01312/laws.FnExactReorderParts", spec := "fnExactReorderParts", unfollowed := true, recurses := true, apart := false }
def FnExactReorderPartsSaid : Prop := fnExactReorderPartsRow.holds Try.pinned (OpenSpec.ofChange fnExactReorderPartsSpec)

/-- ITS FALSE NEIGHBOUR: 'it returns false'. Refute it at one input. -/
def fnExactReorderPartsWrong : ChangeSpec := { name := "fnExactReorderParts", fn := fun _ => fun
  | [d1, d2] => { results := [.lit (.bool false)], args := [d1, d2] }
  | _ => none }
def FnExactReorderPartsWrongFalsely : Prop := fnExactReorderPartsRow.holds Try.pinned (OpenSpec.ofChange fnExactReorderPartsWrong)

/-- 'laws.FnExactSeeingSets': WHATEVER THE INPUT: true; the input reads as it did. -/
def fnExactSeeingSetsSpec : ChangeSpec := { name := "fnExactSeeingSets", fn := fun _ => fun
  | [d] => { results := [.lit (.bool true)], args := [d] }
  | _ => none }
def fnExactSeeingSetsRow : OpenClaim := { program := "ytmdemhfmhlnlgaa", sum := "f59b0e131f8ecec01bc8a39c474fda5b7523977cf9c5930728436496f7e91024", func := "loop.example/g01312/laws.FnExactSeeingSets", spec := "fnExactSeeingSets", unfollowed := true, recurses := true, apart := false }
def FnExactSeeingSetsSaid : Prop := fnExactSeeingSetsRow.holds Try.pinned (OpenSpec.ofChange fnExactSeeingSetsSpec)

/-- ITS FALSE NEIGHBOUR: 'it returns false'. Refute it at one input. -/
def fnExactSeeingSetsWrong : ChangeSpec := { name := "fnExactSeeingSets", fn := fun _ => fun
  | [d] => { results := [.lit (.bool false)], args := [d] }
  | _ => none }
def FnExactSeeingSetsWrongFalsely : Prop := fnExactSeeingSetsRow.holds Try.pinned (OpenSpec.ofChange fnExactSeeingSetsWrong)

/-- 'laws.FnExactStackLayers': WHATEVER THE INPUT: true; the input reads as it did. -/
def fnExactStackLayersSpec : ChangeSpec := { name := "fnExactStackLayers", fn := fun _ => fun
  | [d] => { results := [.lit (.bool true)], args := [d] }
  | _ => none }
def fnExactStackLayersRow : OpenClaim := { program := "ytmdemhfmhlnlgaa", sum := "f59b0e131f8ecec01bc8a39c474fda5b7523977cf9c5930728436496f7e91024", func := "loop.example/g01312/laws.FnExactStackLayers", spec := "fnExactStackLayers", unfollowed := true, recurses := true, apart := false }
def FnExactStackLayersSaid : Prop := fnExactStackLayersRow.holds Try.pinned (OpenSpec.ofChange fnExactStackLayersSpec)

/-- ITS FALSE NEIGHBOUR: 'it returns false'. Refute it at one input. -/
def fnExactStackLayersWrong : ChangeSpec := { name := "fnExactStackLayers", fn := fun _ => fun
  | [d] => { results := [.lit (.bool false)], args := [d] }
  | _ => none }
def FnExactStackLayersWrongFalsely : Prop := fnExactStackLayersRow.holds Try.pinned (OpenSpec.ofChange fnExactStackLayersWrong)

/-- 'laws.FnExactCellFor': WHATEVER THE INPUT: true; the input reads as it did. -/
def fnExactCellForSpec : ChangeSpec := { name := "fnExactCellFor", fn := fun _ => fun
  | [d1, d2, d3] => { results := [.lit (.bool true)], args := [d1, d2, d3] }
  | _ => none }
def fnExactCellForRow : OpenClaim := { program := "ytmdemhfmhlnlgaa", sum := "f59b0e131f8ecec01bc8a39c474fda5b7523977cf9c5930728436496f7e91024", func := "loop.example/g01312/laws.FnExactCellFor", spec := "fnExactCellFor", apart := false }
def FnExactCellForSaid : Prop := fnExactCellForRow.holds Try.pinned (OpenSpec.ofChange fnExactCellForSpec)

/-- ITS FALSE NEIGHBOUR: 'it returns false'. Refute it at one input. -/
def fnExactCellForWrong : ChangeSpec := { name := "fnExactCellFor", fn := fun _ => fun
  | [d1, d2, d3] => { results := [.lit (.bool false)], args := [d1, d2, d3] }
  | _ => none }
def FnExactCellForWrongFalsely : Prop := fnExactCellForRow.holds Try.pinned (OpenSpec.ofChange fnExactCellForWrong)

/-- 'laws.FnExactStackOf': WHATEVER THE INPUT: true; the input reads as it did. -/
def fnExactStackOfSpec : ChangeSpec := { name := "fnExactStackOf", fn := fun _ => fun
  | [d1, d2] => { results := [.lit (.bool true)], args := [d1, d2] }
  | _ => none }
def fnExactStackOfRow : OpenClaim := { program := "ytmdemhfmhlnlgaa", sum := "f59b0e131f8ecec01bc8a39c474fda5b7523977cf9c5930728436496f7e91024", func := "loop.example/g01312/laws.FnExactStackOf", spec := "fnExactStackOf", unfollowed := true, recurses := true, apart := false }
def FnExactStackOfSaid : Prop := fnExactStackOfRow.holds Try.pinned (OpenSpec.ofChange fnExactStackOfSpec)

/-- ITS FALSE NEIGHBOUR: 'it returns false'. Refute it at one input. -/
def fnExactStackOfWrong : ChangeSpec := { name := "fnExactStackOf", fn := fun _ => fun
  | [d1, d2] => { results := [.lit (.bool false)], args := [d1, d2] }
  | _ => none }
def FnExactStackOfWrongFalsely : Prop := fnExactStackOfRow.holds Try.pinned (OpenSpec.ofChange fnExactStackOfWrong)

/-- 'laws.FnExactLeastSeeing': WHATEVER THE INPUT: true; the input reads as it did. -/
def fnExactLeastSeeingSpec : ChangeSpec := { name := "fnExactLeastSeeing", fn := fun _ => fun
  | [d] => { results := [.lit (.bool true)], args := [d] }
  | _ => none }
def fnExactLeastSeeingRow : OpenClaim := { program := "ytmdemhfmhlnlgaa", sum := "f59b0e131f8ecec01bc8a39c474fda5b7523977cf9c5930728436496f7e91024", func := "loop.example/g01312/laws.FnExactLeastSeeing", spec := "fnExactLeastSeeing", unfollowed := true, recurses := true, apart := false }
def FnExactLeastSeeingSaid : Prop := fnExactLeastSeeingRow.holds Try.pinned (OpenSpec.ofChange fnExactLeastSeeingSpec)

/-- ITS FALSE NEIGHBOUR: 'it returns false'. Refute it at one input. -/
def fnExactLeastSeeingWrong : ChangeSpec := { name := "fnExactLeastSeeing", fn := fun _ => fun
  | [d] => { results := [.lit (.bool false)], args := [d] }
  | _ => none }
def FnExactLeastSeeingWrongFalsely : Prop := fnExactLeastSeeingRow.holds Try.pinned (OpenSpec.ofChange fnExactLeastSeeingWrong)

/- THE SECOND FORM. 'bulk': how many values and letters a reading holds, each counted each time it is reached (what is shared counts as often as it is met; a slice's spare places count too). A statement '..UptoSaid' is the law's where the arguments, and the package variables that the reading takes, are together of bulk at most 1048576: NARROWER than '..Said'. Prove '..Said' where nothing that the law and all that it calls make is longer than what came in: it says more and counts as full. Else prove '..UptoSaid'. A law counts once. -/
mutual
def uptoBulk {H : Type} : DataW H → Nat
  | .lit (.string bytes) => bytes.length + 1
  | .lit _ => 1
  | .nil => 1
  | .ptr d => uptoBulk d + 1
  | .slice elems spare => uptoBulkAll elems + uptoBulkAll spare + 1
  | .agg parts => uptoBulkAll parts + 1
  | .iface _ d => uptoBulk d + 1
  | .map entries => uptoBulkEntries entries + 1
  | .held _ => 1
def uptoBulkAll {H : Type} : List (DataW H) → Nat
  | [] => 0
  | d :: r => uptoBulk d + uptoBulkAll r
def uptoBulkEntries {H : Type} : List (Lit × DataW H) → Nat
  | [] => 0
  | x :: r => uptoBulkEntry x + uptoBulkEntries r
def uptoBulkEntry {H : Type} : Lit × DataW H → Nat
  | (.string bytes, d) => bytes.length + uptoBulk d + 1
  | (_, d) => uptoBulk d + 1
 end
def uptoSmall : (H : Type) → List (DataW H) → Bool := fun _ ds => decide (uptoBulkAll ds ≤ 1048576)
def OpenSpec.upto (s : _root_.Go.ChangeSpec) : _root_.Go.OpenSpec := { _root_.Go.OpenSpec.ofChange s with cond := some uptoSmall }

/-- 'laws.FnExactCountBlack', WHERE WHAT IT READS IS OF BULK AT MOST 1048576: true; the input reads as it did. -/
def fnExactCountBlackUptoRow : OpenClaim := { program := "ytmdemhfmhlnlgaa", sum := "f59b0e131f8ecec01bc8a39c474fda5b7523977cf9c5930728436496f7e91024", func := "loop.example/g01312/laws.FnExactCountBlack", spec := "fnExactCountBlack", apart := false, narrowed := true }
def FnExactCountBlackUptoSaid : Prop := fnExactCountBlackUptoRow.holds Try.pinned (OpenSpec.upto fnExactCountBlackSpec)

/-- 'laws.FnExactSameLayers', WHERE WHAT IT READS IS OF BULK AT MOST 1048576: true; the input reads as it did. -/
def fnExactSameLayersUptoRow : OpenClaim := { program := "ytmdemhfmhlnlgaa", sum := "f59b0e131f8ecec01bc8a39c474fda5b7523977cf9c5930728436496f7e91024", func := "loop.example/g01312/laws.FnExactSameLayers", spec := "fnExactSameLayers", apart := false, narrowed := true }
def FnExactSameLayersUptoSaid : Prop := fnExactSameLayersUptoRow.holds Try.pinned (OpenSpec.upto fnExactSameLayersSpec)

/-- 'laws.FnExactNextOrder', WHERE WHAT IT READS IS OF BULK AT MOST 1048576: true; the input reads as it did. -/
def fnExactNextOrderUptoRow : OpenClaim := { program := "ytmdemhfmhlnlgaa", sum := "f59b0e131f8ecec01bc8a39c474fda5b7523977cf9c5930728436496f7e91024", func := "loop.example/g01312/laws.FnExactNextOrder", spec := "fnExactNextOrder", apart := false, narrowed := true }
def FnExactNextOrderUptoSaid : Prop := fnExactNextOrderUptoRow.holds Try.pinned (OpenSpec.upto fnExactNextOrderSpec)

/-- 'laws.FnExactAllOf', WHERE WHAT IT READS IS OF BULK AT MOST 1048576: true; the input reads as it did. -/
def fnExactAllOfUptoRow : OpenClaim := { program := "ytmdemhfmhlnlgaa", sum := "f59b0e131f8ecec01bc8a39c474fda5b7523977cf9c5930728436496f7e91024", func := "loop.example/g01312/laws.FnExactAllOf", spec := "fnExactAllOf", apart := false, narrowed := true }
def FnExactAllOfUptoSaid : Prop := fnExactAllOfUptoRow.holds Try.pinned (OpenSpec.upto fnExactAllOfSpec)

/-- 'laws.FnExactReorderShares', WHERE WHAT IT READS IS OF BULK AT MOST 1048576: true; the input reads as it did. -/
def fnExactReorderSharesUptoRow : OpenClaim := { program := "ytmdemhfmhlnlgaa", sum := "f59b0e131f8ecec01bc8a39c474fda5b7523977cf9c5930728436496f7e91024", func := "loop.example/g01312/laws.FnExactReorderShares", spec := "fnExactReorderShares", apart := false, narrowed := true }
def FnExactReorderSharesUptoSaid : Prop := fnExactReorderSharesUptoRow.holds Try.pinned (OpenSpec.upto fnExactReorderSharesSpec)

/-- 'laws.FnExactColumnsOf', WHERE WHAT IT READS IS OF BULK AT MOST 1048576: true; the input reads as it did. -/
def fnExactColumnsOfUptoRow : OpenClaim := { program := "ytmdemhfmhlnlgaa", sum := "f59b0e131f8ecec01bc8a39c474fda5b7523977cf9c5930728436496f7e91024", func := "loop.example/g01312/laws.FnExactColumnsOf", spec := "fnExactColumnsOf", apart := false, narrowed := true }
def FnExactColumnsOfUptoSaid : Prop := fnExactColumnsOfUptoRow.holds Try.pinned (OpenSpec.upto fnExactColumnsOfSpec)

/-- 'laws.FnExactReorderParts', WHERE WHAT IT READS IS OF BULK AT MOST 1048576: true; the input reads as it did. -/
def fnExactReorderPartsUptoRow : OpenClaim := { program := "ytmdemhfmhlnlgaa", sum := "f59b0e131f8ecec01bc8a39c474fda5b7523977cf9c5930728436496f7e91024", func := "loop.example/g01312/laws.FnExactReorderParts", spec := "fnExactReorderParts", unfollowed := true, recurses := true, apart := false, narrowed := true }
def FnExactReorderPartsUptoSaid : Prop := fnExactReorderPartsUptoRow.holds Try.pinned (OpenSpec.upto fnExactReorderPartsSpec)

/-- 'laws.FnExactSeeingSets', WHERE WHAT IT READS IS OF BULK AT MOST 1048576: true; the input reads as it did. -/
def fnExactSeeingSetsUptoRow : OpenClaim := { program := "ytmdemhfmhlnlgaa", sum := "f59b0e131f8ecec01bc8a39c474fda5b7523977cf9c5930728436496f7e91024", func := "loop.example/g01312/laws.FnExactSeeingSets", spec := "fnExactSeeingSets", unfollowed := true, recurses := true, apart := false, narrowed := true }
def FnExactSeeingSetsUptoSaid : Prop := fnExactSeeingSetsUptoRow.holds Try.pinned (OpenSpec.upto fnExactSeeingSetsSpec)

/-- 'laws.FnExactStackLayers', WHERE WHAT IT READS IS OF BULK AT MOST 1048576: true; the input reads as it did. -/
def fnExactStackLayersUptoRow : OpenClaim := { program := "ytmdemhfmhlnlgaa", sum := "f59b0e131f8ecec01bc8a39c474fda5b7523977cf9c5930728436496f7e91024", func := "loop.example/g01312/laws.FnExactStackLayers", spec := "fnExactStackLayers", unfollowed := true, recurses := true, apart := false, narrowed := true }
def FnExactStackLayersUptoSaid : Prop := fnExactStackLayersUptoRow.holds Try.pinned (OpenSpec.upto fnExactStackLayersSpec)

/-- 'laws.FnExactCellFor', WHERE WHAT IT READS IS OF BULK AT MOST 1048576: true; the input reads as it did. -/
def fnExactCellForUptoRow : OpenClaim := { program := "ytmdemhfmhlnlgaa", sum := "f59b0e131f8ecec01bc8a39c474fda5b7523977cf9c5930728436496f7e91024", func := "loop.example/g01312/laws.FnExactCellFor", spec := "fnExactCellFor", apart := false, narrowed := true }
def FnExactCellForUptoSaid : Prop := fnExactCellForUptoRow.holds Try.pinned (OpenSpec.upto fnExactCellForSpec)

/-- 'laws.FnExactStackOf', WHERE WHAT IT READS IS OF BULK AT MOST 1048576: true; the input reads as it did. -/
def fnExactStackOfUptoRow : OpenClaim := { program := "ytmdemhfmhlnlgaa", sum := "f59b0e131f8ecec01bc8a39c474fda5b7523977cf9c5930728436496f7e91024", func := "loop.example/g01312/laws.FnExactStackOf", spec := "fnExactStackOf", unfollowed := true, recurses := true, apart := false, narrowed := true }
def FnExactStackOfUptoSaid : Prop := fnExactStackOfUptoRow.holds Try.pinned (OpenSpec.upto fnExactStackOfSpec)

/-- 'laws.FnExactLeastSeeing', WHERE WHAT IT READS IS OF BULK AT MOST 1048576: true; the input reads as it did. -/
def fnExactLeastSeeingUptoRow : OpenClaim := { program := "ytmdemhfmhlnlgaa", sum := "f59b0e131f8ecec01bc8a39c474fda5b7523977cf9c5930728436496f7e91024", func := "loop.example/g01312/laws.FnExactLeastSeeing", spec := "fnExactLeastSeeing", unfollowed := true, recurses := true, apart := false, narrowed := true }
def FnExactLeastSeeingUptoSaid : Prop := fnExactLeastSeeingUptoRow.holds Try.pinned (OpenSpec.upto fnExactLeastSeeingSpec)

end Rows
end Go.Proofs.Ytmdemhfmhlnlgaa
