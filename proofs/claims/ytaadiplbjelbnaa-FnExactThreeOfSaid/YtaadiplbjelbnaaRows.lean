/-
  No cell of these rows narrows 'for every input' (looked for: loops, veiled, ifaces, maps, wideKeys, modest, calm, conditions, laid).
  DERIVED. THE GIVEN ROWS OF THIS SEAT. 12 by the template 'for every input the law returns true; each argument reads behind the call as it read before'; 0 by the template 'total and deterministic' (their statements: YtaadiplbjelbnaaTotals.lean).
  GIVEN WITH THE SEED: the statements are not yours to turn. If you find one false, say at which input.
  Laid BY PROGRAM, IN A SANDBOX (cutbox-rows.mjs): the forced cells as the released guide's own fill.sh prints them over the translation accf036d1b3487cf… (all of the seat's roots in one cut). By AI agents, Wed Nov 11 2026. No macro, syntax, notation, axiom, sorry.
-/
import Derived.Test.YtaadiplbjelbnaaChecked
import GoSem.Claim
import GoSem.ClaimJoined
import GoSem.ClaimMapViews
import Derived.JoinedTies
import Derived.KernelRfl
namespace Go.Proofs.Ytaadiplbjelbnaa
/- THE CELL 'sum', in the pinned program and in every row, IS THE sha256 OF THE DUMP (.gsa) THAT YtaadiplbjelbnaaProg.lean LOADS. Nothing in Lean hashes anything: it is a label: what it is worth is what the hold of that sum in a sandbox is worth. -/
noncomputable def Try.pinned : Pinned := { name := "ytaadiplbjelbnaa", sum := "accf036d1b3487cf7211becb6ae4ab796094321b51ab9521af584efaefa80240", checked := Try.checked }
namespace Rows
def none {H : Type} : Left H := { results := [], args := [] }

/-- 'laws.FnExactOneOf': WHATEVER THE INPUT: true; the input reads as it did. -/
def fnExactOneOfSpec : ChangeSpec := { name := "fnExactOneOf", fn := fun _ => fun
  | [d] => { results := [.lit (.bool true)], args := [d] }
  | _ => none }
def fnExactOneOfRow : OpenClaim := { program := "ytaadiplbjelbnaa", sum := "accf036d1b3487cf7211becb6ae4ab796094321b51ab9521af584efaefa80240", func := "loop.example/g01312/laws.FnExactOneOf", spec := "fnExactOneOf", unfollowed := true, recurses := true, apart := false }
def FnExactOneOfSaid : Prop := fnExactOneOfRow.holds Try.pinned (OpenSpec.ofChange fnExactOneOfSpec)

/-- ITS FALSE NEIGHBOUR: 'it returns false'. Refute it at one input. -/
def fnExactOneOfWrong : ChangeSpec := { name := "fnExactOneOf", fn := fun _ => fun
  | [d] => { results := [.lit (.bool false)], args := [d] }
  | _ => none }
def FnExactOneOfWrongFalsely : Prop := fnExactOneOfRow.holds Try.pinned (OpenSpec.ofChange fnExactOneOfWrong)

/-- 'laws.FnExactTwoOf': WHATEVER THE INPUT: true; the input reads as it did. -/
def fnExactTwoOfSpec : ChangeSpec := { name := "fnExactTwoOf", fn := fun _ => fun
  | [d] => { results := [.lit (.bool true)], args := [d] }
  | _ => none }
def fnExactTwoOfRow : OpenClaim := { program := "ytaadiplbjelbnaa", sum := "accf036d1b3487cf7211becb6ae4ab796094321b51ab9521af584efaefa80240", func := "loop.example/g01312/laws.FnExactTwoOf", spec := "fnExactTwoOf", unfollowed := true, recurses := true, apart := false }
def FnExactTwoOfSaid : Prop := fnExactTwoOfRow.holds Try.pinned (OpenSpec.ofChange fnExactTwoOfSpec)

/-- ITS FALSE NEIGHBOUR: 'it returns false'. Refute it at one input. -/
def fnExactTwoOfWrong : ChangeSpec := { name := "fnExactTwoOf", fn := fun _ => fun
  | [d] => { results := [.lit (.bool false)], args := [d] }
  | _ => none }
def FnExactTwoOfWrongFalsely : Prop := fnExactTwoOfRow.holds Try.pinned (OpenSpec.ofChange fnExactTwoOfWrong)

/-- 'laws.FnExactPlainLayer': WHATEVER THE INPUT: true; the input reads as it did. -/
def fnExactPlainLayerSpec : ChangeSpec := { name := "fnExactPlainLayer", fn := fun _ => fun
  | [d1, d2] => { results := [.lit (.bool true)], args := [d1, d2] }
  | _ => none }
def fnExactPlainLayerRow : OpenClaim := { program := "ytaadiplbjelbnaa", sum := "accf036d1b3487cf7211becb6ae4ab796094321b51ab9521af584efaefa80240", func := "loop.example/g01312/laws.FnExactPlainLayer", spec := "fnExactPlainLayer", unfollowed := true, recurses := true, apart := false }
def FnExactPlainLayerSaid : Prop := fnExactPlainLayerRow.holds Try.pinned (OpenSpec.ofChange fnExactPlainLayerSpec)

/-- ITS FALSE NEIGHBOUR: 'it returns false'. Refute it at one input. -/
def fnExactPlainLayerWrong : ChangeSpec := { name := "fnExactPlainLayer", fn := fun _ => fun
  | [d1, d2] => { results := [.lit (.bool false)], args := [d1, d2] }
  | _ => none }
def FnExactPlainLayerWrongFalsely : Prop := fnExactPlainLayerRow.holds Try.pinned (OpenSpec.ofChange fnExactPlainLayerWrong)

/-- 'laws.FnExactThreeOf': WHATEVER THE INPUT: true; the input reads as it did. -/
def fnExactThreeOfSpec : ChangeSpec := { name := "fnExactThreeOf", fn := fun _ => fun
  | [d] => { results := [.lit (.bool true)], args := [d] }
  | _ => none }
def fnExactThreeOfRow : OpenClaim := { program := "ytaadiplbjelbnaa", sum := "accf036d1b3487cf7211becb6ae4ab796094321b51ab9521af584efaefa80240", func := "loop.example/g01312/laws.FnExactThreeOf", spec := "fnExactThreeOf", unfollowed := true, recurses := true, apart := false }
def FnExactThreeOfSaid : Prop := fnExactThreeOfRow.holds Try.pinned (OpenSpec.ofChange fnExactThreeOfSpec)

/-- ITS FALSE NEIGHBOUR: 'it returns false'. Refute it at one input. -/
def fnExactThreeOfWrong : ChangeSpec := { name := "fnExactThreeOf", fn := fun _ => fun
  | [d] => { results := [.lit (.bool false)], args := [d] }
  | _ => none }
def FnExactThreeOfWrongFalsely : Prop := fnExactThreeOfRow.holds Try.pinned (OpenSpec.ofChange fnExactThreeOfWrong)

/-- 'laws.FnExactSameLayers': WHATEVER THE INPUT: true; the input reads as it did. -/
def fnExactSameLayersSpec : ChangeSpec := { name := "fnExactSameLayers", fn := fun _ => fun
  | [d1, d2] => { results := [.lit (.bool true)], args := [d1, d2] }
  | _ => none }
def fnExactSameLayersRow : OpenClaim := { program := "ytaadiplbjelbnaa", sum := "accf036d1b3487cf7211becb6ae4ab796094321b51ab9521af584efaefa80240", func := "loop.example/g01312/laws.FnExactSameLayers", spec := "fnExactSameLayers", apart := false }
def FnExactSameLayersSaid : Prop := fnExactSameLayersRow.holds Try.pinned (OpenSpec.ofChange fnExactSameLayersSpec)

/-- ITS FALSE NEIGHBOUR: 'it returns false'. Refute it at one input. -/
def fnExactSameLayersWrong : ChangeSpec := { name := "fnExactSameLayers", fn := fun _ => fun
  | [d1, d2] => { results := [.lit (.bool false)], args := [d1, d2] }
  | _ => none }
def FnExactSameLayersWrongFalsely : Prop := fnExactSameLayersRow.holds Try.pinned (OpenSpec.ofChange fnExactSameLayersWrong)

/-- 'laws.FnExactNextOrder': WHATEVER THE INPUT: true; the input reads as it did. -/
def fnExactNextOrderSpec : ChangeSpec := { name := "fnExactNextOrder", fn := fun _ => fun
  | [d1, d2] => { results := [.lit (.bool true)], args := [d1, d2] }
  | _ => none }
def fnExactNextOrderRow : OpenClaim := { program := "ytaadiplbjelbnaa", sum := "accf036d1b3487cf7211becb6ae4ab796094321b51ab9521af584efaefa80240", func := "loop.example/g01312/laws.FnExactNextOrder", spec := "fnExactNextOrder", apart := false }
def FnExactNextOrderSaid : Prop := fnExactNextOrderRow.holds Try.pinned (OpenSpec.ofChange fnExactNextOrderSpec)

/-- ITS FALSE NEIGHBOUR: 'it returns false'. Refute it at one input. -/
def fnExactNextOrderWrong : ChangeSpec := { name := "fnExactNextOrder", fn := fun _ => fun
  | [d1, d2] => { results := [.lit (.bool false)], args := [d1, d2] }
  | _ => none }
def FnExactNextOrderWrongFalsely : Prop := fnExactNextOrderRow.holds Try.pinned (OpenSpec.ofChange fnExactNextOrderWrong)

/-- 'laws.FnExactCountsOf': WHATEVER THE INPUT: true; the input reads as it did. -/
def fnExactCountsOfSpec : ChangeSpec := { name := "fnExactCountsOf", fn := fun _ => fun
  | [d] => { results := [.lit (.bool true)], args := [d] }
  | _ => none }
def fnExactCountsOfRow : OpenClaim := { program := "ytaadiplbjelbnaa", sum := "accf036d1b3487cf7211becb6ae4ab796094321b51ab9521af584efaefa80240", func := "loop.example/g01312/laws.FnExactCountsOf", spec := "fnExactCountsOf", apart := false }
def FnExactCountsOfSaid : Prop := fnExactCountsOfRow.holds Try.pinned (OpenSpec.ofChange fnExactCountsOfSpec)

/-- ITS FALSE NEIGHBOUR: 'it returns false'. Refute it at one input. -/
def fnExactCountsOfWrong : ChangeSpec := { name := "fnExactCountsOf", fn := fun _ => fun
  | [d] => { results := [.lit (.bool false)], args := [d] }
  | _ => none }
def FnExactCountsOfWrongFalsely : Prop := fnExactCountsOfRow.holds Try.pinned (OpenSpec.ofChange fnExactCountsOfWrong)

/-- 'laws.FnExactHistogramOf': WHATEVER THE INPUT: true; the input reads as it did. -/
def fnExactHistogramOfSpec : ChangeSpec := { name := "fnExactHistogramOf", fn := fun _ => fun
  | [d] => { results := [.lit (.bool true)], args := [d] }
  | _ => none }
def fnExactHistogramOfRow : OpenClaim := { program := "ytaadiplbjelbnaa", sum := "accf036d1b3487cf7211becb6ae4ab796094321b51ab9521af584efaefa80240", func := "loop.example/g01312/laws.FnExactHistogramOf", spec := "fnExactHistogramOf", apart := false }
def FnExactHistogramOfSaid : Prop := fnExactHistogramOfRow.holds Try.pinned (OpenSpec.ofChange fnExactHistogramOfSpec)

/-- ITS FALSE NEIGHBOUR: 'it returns false'. Refute it at one input. -/
def fnExactHistogramOfWrong : ChangeSpec := { name := "fnExactHistogramOf", fn := fun _ => fun
  | [d] => { results := [.lit (.bool false)], args := [d] }
  | _ => none }
def FnExactHistogramOfWrongFalsely : Prop := fnExactHistogramOfRow.holds Try.pinned (OpenSpec.ofChange fnExactHistogramOfWrong)

/-- 'laws.FnExactSwapColours': WHATEVER THE INPUT: true; the input reads as it did. -/
def fnExactSwapColoursSpec : ChangeSpec := { name := "fnExactSwapColours", fn := fun _ => fun
  | [d] => { results := [.lit (.bool true)], args := [d] }
  | _ => none }
def fnExactSwapColoursRow : OpenClaim := { program := "ytaadiplbjelbnaa", sum := "accf036d1b3487cf7211becb6ae4ab796094321b51ab9521af584efaefa80240", func := "loop.example/g01312/laws.FnExactSwapColours", spec := "fnExactSwapColours", apart := false }
def FnExactSwapColoursSaid : Prop := fnExactSwapColoursRow.holds Try.pinned (OpenSpec.ofChange fnExactSwapColoursSpec)

/-- ITS FALSE NEIGHBOUR: 'it returns false'. Refute it at one input. -/
def fnExactSwapColoursWrong : ChangeSpec := { name := "fnExactSwapColours", fn := fun _ => fun
  | [d] => { results := [.lit (.bool false)], args := [d] }
  | _ => none }
def FnExactSwapColoursWrongFalsely : Prop := fnExactSwapColoursRow.holds Try.pinned (OpenSpec.ofChange fnExactSwapColoursWrong)

/-- 'laws.FnExactDifferAt': WHATEVER THE INPUT: true; the input reads as it did. -/
def fnExactDifferAtSpec : ChangeSpec := { name := "fnExactDifferAt", fn := fun _ => fun
  | [d1, d2] => { results := [.lit (.bool true)], args := [d1, d2] }
  | _ => none }
def fnExactDifferAtRow : OpenClaim := { program := "ytaadiplbjelbnaa", sum := "accf036d1b3487cf7211becb6ae4ab796094321b51ab9521af584efaefa80240", func := "loop.example/g01312/laws.FnExactDifferAt", spec := "fnExactDifferAt", unfollowed := true, recurses := true, apart := false }
def FnExactDifferAtSaid : Prop := fnExactDifferAtRow.holds Try.pinned (OpenSpec.ofChange fnExactDifferAtSpec)

/-- ITS FALSE NEIGHBOUR: 'it returns false'. Refute it at one input. -/
def fnExactDifferAtWrong : ChangeSpec := { name := "fnExactDifferAt", fn := fun _ => fun
  | [d1, d2] => { results := [.lit (.bool false)], args := [d1, d2] }
  | _ => none }
def FnExactDifferAtWrongFalsely : Prop := fnExactDifferAtRow.holds Try.pinned (OpenSpec.ofChange fnExactDifferAtWrong)

/-- 'laws.FnExactOppositeScheme': WHATEVER THE INPUT: true; the input reads as it did. -/
def fnExactOppositeSchemeSpec : ChangeSpec := { name := "fnExactOppositeScheme", fn := fun _ => fun
  | [d] => { results := [.lit (.bool true)], args := [d] }
  | _ => none }
def fnExactOppositeSchemeRow : OpenClaim := { program := "ytaadiplbjelbnaa", sum := "accf036d1b3487cf7211becb6ae4ab796094321b51ab9521af584efaefa80240", func := "loop.example/g01312/laws.FnExactOppositeScheme", spec := "fnExactOppositeScheme", apart := false }
def FnExactOppositeSchemeSaid : Prop := fnExactOppositeSchemeRow.holds Try.pinned (OpenSpec.ofChange fnExactOppositeSchemeSpec)

/-- ITS FALSE NEIGHBOUR: 'it returns false'. Refute it at one input. -/
def fnExactOppositeSchemeWrong : ChangeSpec := { name := "fnExactOppositeScheme", fn := fun _ => fun
  | [d] => { results := [.lit (.bool false)], args := [d] }
  | _ => none }
def FnExactOppositeSchemeWrongFalsely : Prop := fnExactOppositeSchemeRow.holds Try.pinned (OpenSpec.ofChange fnExactOppositeSchemeWrong)

/-- 'laws.FnExactLevelFor': WHATEVER THE INPUT: true; the input reads as it did. -/
def fnExactLevelForSpec : ChangeSpec := { name := "fnExactLevelFor", fn := fun _ => fun
  | [d1, d2] => { results := [.lit (.bool true)], args := [d1, d2] }
  | _ => none }
def fnExactLevelForRow : OpenClaim := { program := "ytaadiplbjelbnaa", sum := "accf036d1b3487cf7211becb6ae4ab796094321b51ab9521af584efaefa80240", func := "loop.example/g01312/laws.FnExactLevelFor", spec := "fnExactLevelFor", unfollowed := true, recurses := true, apart := false }
def FnExactLevelForSaid : Prop := fnExactLevelForRow.holds Try.pinned (OpenSpec.ofChange fnExactLevelForSpec)

/-- ITS FALSE NEIGHBOUR: 'it returns false'. Refute it at one input. -/
def fnExactLevelForWrong : ChangeSpec := { name := "fnExactLevelFor", fn := fun _ => fun
  | [d1, d2] => { results := [.lit (.bool false)], args := [d1, d2] }
  | _ => none }
def FnExactLevelForWrongFalsely : Prop := fnExactLevelForRow.holds Try.pinned (OpenSpec.ofChange fnExactLevelForWrong)

/- THE SECOND FORM. 'bulk': how many values and letters a reading holds, each counted each time it is reached (what is shared counts as often as it is met; a slice's spare places count too). A statement '..UptoSaid' is the law's where the arguments, and the package variables that the reading takes, are together of bulk at most 1048576: NARROWER than '..Said'. Prove '..Said' where nothing that the law and all that it calls make is longer than what came in: it says more and counts as full. Else prove '..UptoSaid'. A law counts once. -/
mutual
def uptoBulk {H : Type} : DataW H → Nat
  | .lit (.string bytes) => bytes.length + 1
  | .lit _ => 1
  | .nil => 1
  | .ptr d => uptoBulk d + 1
  | .slice elems spare => uptoBulkAll elems + uptoBulkAll spare + 1
  | .agg parts => uptoBulkAll parts + 1
  | .iface _ d => uptoBulk d + 1
  | .map entries => uptoBulkEntries entries + 1
  | .held _ => 1
def uptoBulkAll {H : Type} : List (DataW H) → Nat
  | [] => 0
  | d :: r => uptoBulk d + uptoBulkAll r
def uptoBulkEntries {H : Type} : List (Lit × DataW H) → Nat
  | [] => 0
  | x :: r => uptoBulkEntry x + uptoBulkEntries r
def uptoBulkEntry {H : Type} : Lit × DataW H → Nat
  | (.string bytes, d) => bytes.length + uptoBulk d + 1
  | (_, d) => uptoBulk d + 1
 end
def uptoSmall : (H : Type) → List (DataW H) → Bool := fun _ ds => decide (uptoBulkAll ds ≤ 1048576)
def OpenSpec.upto (s : _root_.Go.ChangeSpec) : _root_.Go.OpenSpec := { _root_.Go.OpenSpec.ofChange s with cond := some uptoSmall }

/-- 'laws.FnExactOneOf', WHERE WHAT IT READS IS OF BULK AT MOST 1048576: true; the input reads as it did. -/
def fnExactOneOfUptoRow : OpenClaim := { program := "ytaadiplbjelbnaa", sum := "accf036d1b3487cf7211becb6ae4ab796094321b51ab9521af584efaefa80240", func := "loop.example/g01312/laws.FnExactOneOf", spec := "fnExactOneOf", unfollowed := true, recurses := true, apart := false, narrowed := true }
def FnExactOneOfUptoSaid : Prop := fnExactOneOfUptoRow.holds Try.pinned (OpenSpec.upto fnExactOneOfSpec)

/-- 'laws.FnExactTwoOf', WHERE WHAT IT READS IS OF BULK AT MOST 1048576: true; the input reads as it did. -/
def fnExactTwoOfUptoRow : OpenClaim := { program := "ytaadiplbjelbnaa", sum := "accf036d1b3487cf7211becb6ae4ab796094321b51ab9521af584efaefa80240", func := "loop.example/g01312/laws.FnExactTwoOf", spec := "fnExactTwoOf", unfollowed := true, recurses := true, apart := false, narrowed := true }
def FnExactTwoOfUptoSaid : Prop := fnExactTwoOfUptoRow.holds Try.pinned (OpenSpec.upto fnExactTwoOfSpec)

/-- 'laws.FnExactPlainLayer', WHERE WHAT IT READS IS OF BULK AT MOST 1048576: true; the input reads as it did. -/
def fnExactPlainLayerUptoRow : OpenClaim := { program := "ytaadiplbjelbnaa", sum := "accf036d1b3487cf7211becb6ae4ab796094321b51ab9521af584efaefa80240", func := "loop.example/g01312/laws.FnExactPlainLayer", spec := "fnExactPlainLayer", unfollowed := true, recurses := true, apart := false, narrowed := true }
def FnExactPlainLayerUptoSaid : Prop := fnExactPlainLayerUptoRow.holds Try.pinned (OpenSpec.upto fnExactPlainLayerSpec)

/-- 'laws.FnExactThreeOf', WHERE WHAT IT READS IS OF BULK AT MOST 1048576: true; the input reads as it did. -/
def fnExactThreeOfUptoRow : OpenClaim := { program := "ytaadiplbjelbnaa", sum := "accf036d1b3487cf7211becb6ae4ab796094321b51ab9521af584efaefa80240", func := "loop.example/g01312/laws.FnExactThreeOf", spec := "fnExactThreeOf", unfollowed := true, recurses := true, apart := false, narrowed := true }
def FnExactThreeOfUptoSaid : Prop := fnExactThreeOfUptoRow.holds Try.pinned (OpenSpec.upto fnExactThreeOfSpec)

/-- 'laws.FnExactSameLayers', WHERE WHAT IT READS IS OF BULK AT MOST 1048576: true; the input reads as it did. -/
def fnExactSameLayersUptoRow : OpenClaim := { program := "ytaadiplbjelbnaa", sum := "accf036d1b3487cf7211becb6ae4ab796094321b51ab9521af584efaefa80240", func := "loop.example/g01312/laws.FnExactSameLayers", spec := "fnExactSameLayers", apart := false, narrowed := true }
def FnExactSameLayersUptoSaid : Prop := fnExactSameLayersUptoRow.holds Try.pinned (OpenSpec.upto fnExactSameLayersSpec)

/-- 'laws.FnExactNextOrder', WHERE WHAT IT READS IS OF BULK AT MOST 1048576: true; the input reads as it did. -/
def fnExactNextOrderUptoRow : OpenClaim := { program := "ytaadiplbjelbnaa", sum := "accf036d1b3487cf7211becb6ae4ab796094321b51ab9521af584efaefa80240", func := "loop.example/g01312/laws.FnExactNextOrder", spec := "fnExactNextOrder", apart := false, narrowed := true }
def FnExactNextOrderUptoSaid : Prop := fnExactNextOrderUptoRow.holds Try.pinned (OpenSpec.upto fnExactNextOrderSpec)

/-- 'laws.FnExactCountsOf', WHERE WHAT IT READS IS OF BULK AT MOST 1048576: true; the input reads as it did. -/
def fnExactCountsOfUptoRow : OpenClaim := { program := "ytaadiplbjelbnaa", sum := "accf036d1b3487cf7211becb6ae4ab796094321b51ab9521af584efaefa80240", func := "loop.example/g01312/laws.FnExactCountsOf", spec := "fnExactCountsOf", apart := false, narrowed := true }
def FnExactCountsOfUptoSaid : Prop := fnExactCountsOfUptoRow.holds Try.pinned (OpenSpec.upto fnExactCountsOfSpec)

/-- 'laws.FnExactHistogramOf', WHERE WHAT IT READS IS OF BULK AT MOST 1048576: true; the input reads as it did. -/
def fnExactHistogramOfUptoRow : OpenClaim := { program := "ytaadiplbjelbnaa", sum := "accf036d1b3487cf7211becb6ae4ab796094321b51ab9521af584efaefa80240", func := "loop.example/g01312/laws.FnExactHistogramOf", spec := "fnExactHistogramOf", apart := false, narrowed := true }
def FnExactHistogramOfUptoSaid : Prop := fnExactHistogramOfUptoRow.holds Try.pinned (OpenSpec.upto fnExactHistogramOfSpec)

/-- 'laws.FnExactSwapColours', WHERE WHAT IT READS IS OF BULK AT MOST 1048576: true; the input reads as it did. -/
def fnExactSwapColoursUptoRow : OpenClaim := { program := "ytaadiplbjelbnaa", sum := "accf036d1b3487cf7211becb6ae4ab796094321b51ab9521af584efaefa80240", func := "loop.example/g01312/laws.FnExactSwapColours", spec := "fnExactSwapColours", apart := false, narrowed := true }
def FnExactSwapColoursUptoSaid : Prop := fnExactSwapColoursUptoRow.holds Try.pinned (OpenSpec.upto fnExactSwapColoursSpec)

/-- 'laws.FnExactDifferAt', WHERE WHAT IT READS IS OF BULK AT MOST 1048576: true; the input reads as it did. -/
def fnExactDifferAtUptoRow : OpenClaim := { program := "ytaadiplbjelbnaa", sum := "accf036d1b3487cf7211becb6ae4ab796094321b51ab9521af584efaefa80240", func := "loop.example/g01312/laws.FnExactDifferAt", spec := "fnExactDifferAt", unfollowed := true, recurses := true, apart := false, narrowed := true }
def FnExactDifferAtUptoSaid : Prop := fnExactDifferAtUptoRow.holds Try.pinned (OpenSpec.upto fnExactDifferAtSpec)

/-- 'laws.FnExactOppositeScheme', WHERE WHAT IT READS IS OF BULK AT MOST 1048576: true; the input reads as it did. -/
def fnExactOppositeSchemeUptoRow : OpenClaim := { program := "ytaadiplbjelbnaa", sum := "accf036d1b3487cf7211becb6ae4ab796094321b51ab9521af584efaefa80240", func := "loop.example/g01312/laws.FnExactOppositeScheme", spec := "fnExactOppositeScheme", apart := false, narrowed := true }
def FnExactOppositeSchemeUptoSaid : Prop := fnExactOppositeSchemeUptoRow.holds Try.pinned (OpenSpec.upto fnExactOppositeSchemeSpec)

/-- 'laws.FnExactLevelFor', WHERE WHAT IT READS IS OF BULK AT MOST 1048576: true; the input reads as it did. -/
def fnExactLevelForUptoRow : OpenClaim := { program := "ytaadiplbjelbnaa", sum := "accf036d1b3487cf7211becb6ae4ab796094321b51ab9521af584efaefa80240", func := "loop.example/g01312/laws.FnExactLevelFor", spec := "fnExactLevelFor", unfollowed := true, recurses := true, apart := false, narrowed := true }
def FnExactLevelForUptoSaid : Prop := fnExactLevelForUptoRow.holds Try.pinned (OpenSpec.upto fnExactLevelForSpec)

end Rows
end Go.Proofs.Ytaadiplbjelbnaa
