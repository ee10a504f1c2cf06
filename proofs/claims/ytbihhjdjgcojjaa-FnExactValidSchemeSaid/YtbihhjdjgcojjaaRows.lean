/-
  No cell of these rows narrows 'for every input' (looked for: loops, veiled, ifaces, maps, wideKeys, modest, calm, conditions, laid).
  DERIVED. THE GIVEN ROWS OF THIS SEAT. 6 by the template 'for every input the law returns true; each argument reads behind the call as it read before'; 0 by the template 'total and deterministic' (their statements: YtbihhjdjgcojjaaTotals.lean).
  GIVEN WITH THE SEED: the statements are not yours to turn. If you find one false, say at which input.
  Laid BY PROGRAM, IN A SANDBOX (cutbox-rows.mjs): the forced cells as the released guide's own fill.sh prints them over the translation 52fff8fd53b8ef5b… (all of the seat's roots in one cut). By AI agents, Wed Nov 11 2026. No macro, syntax, notation, axiom, sorry.
-/
import Derived.Test.YtbihhjdjgcojjaaChecked
import GoSem.Claim
import GoSem.ClaimJoined
import GoSem.ClaimMapViews
import Derived.JoinedTies
import Derived.KernelRfl
namespace Go.Proofs.Ytbihhjdjgcojjaa
/- THE CELL 'sum', in the pinned program and in every row, IS THE sha256 OF THE DUMP (.gsa) THAT YtbihhjdjgcojjaaProg.lean LOADS. Nothing in Lean hashes anything: it is a label: what it is worth is what the hold of that sum in a sandbox is worth. -/
noncomputable def Try.pinned : Pinned := { name := "ytbihhjdjgcojjaa", sum := "52fff8fd53b8ef5b1c55c1eaf7c713a9bf3360a13227f2abb9ac83074a156877", checked := Try.checked }
namespace Rows
def none {H : Type} : Left H := { results := [], args := [] }

/-- 'laws.FnExactConstants': WHATEVER THE INPUT: true; the input reads as it did. -/
def fnExactConstantsSpec : ChangeSpec := { name := "fnExactConstants", fn := fun _ => fun
  | [] => { results := [.lit (.bool true)], args := [] }
  | _ => none }
def fnExactConstantsRow : OpenClaim := { program := "ytbihhjdjgcojjaa", sum := "52fff8fd53b8ef5b1c55c1eaf7c713a9bf3360a13227f2abb9ac83074a156877", func := "loop.example/g01312/laws.FnExactConstants", spec := "fnExactConstants", apart := false }
def FnExactConstantsSaid : Prop := fnExactConstantsRow.holds Try.pinned (OpenSpec.ofChange fnExactConstantsSpec)

/-- ITS FALSE NEIGHBOUR: 'it returns false'. Refute it at one input. -/
def fnExactConstantsWrong : ChangeSpec := { name := "fnExactConstants", fn := fun _ => fun
  | [] => { results := [.lit (.bool false)], args := [] }
  | _ => none }
def FnExactConstantsWrongFalsely : Prop := fnExactConstantsRow.holds Try.pinned (OpenSpec.ofChange fnExactConstantsWrong)

/-- 'laws.FnExactCodeName': WHATEVER THE INPUT: true; the input reads as it did. -/
def fnExactCodeNameSpec : ChangeSpec := { name := "fnExactCodeName", fn := fun _ => fun
  | [d] => { results := [.lit (.bool true)], args := [d] }
  | _ => none }
def fnExactCodeNameRow : OpenClaim := { program := "ytbihhjdjgcojjaa", sum := "52fff8fd53b8ef5b1c55c1eaf7c713a9bf3360a13227f2abb9ac83074a156877", func := "loop.example/g01312/laws.FnExactCodeName", spec := "fnExactCodeName", apart := false }
def FnExactCodeNameSaid : Prop := fnExactCodeNameRow.holds Try.pinned (OpenSpec.ofChange fnExactCodeNameSpec)

/-- ITS FALSE NEIGHBOUR: 'it returns false'. Refute it at one input. -/
def fnExactCodeNameWrong : ChangeSpec := { name := "fnExactCodeName", fn := fun _ => fun
  | [d] => { results := [.lit (.bool false)], args := [d] }
  | _ => none }
def FnExactCodeNameWrongFalsely : Prop := fnExactCodeNameRow.holds Try.pinned (OpenSpec.ofChange fnExactCodeNameWrong)

/-- 'laws.FnExactNextNumber': WHATEVER THE INPUT: true; the input reads as it did. -/
def fnExactNextNumberSpec : ChangeSpec := { name := "fnExactNextNumber", fn := fun _ => fun
  | [d1, d2] => { results := [.lit (.bool true)], args := [d1, d2] }
  | _ => none }
def fnExactNextNumberRow : OpenClaim := { program := "ytbihhjdjgcojjaa", sum := "52fff8fd53b8ef5b1c55c1eaf7c713a9bf3360a13227f2abb9ac83074a156877", func := "loop.example/g01312/laws.FnExactNextNumber", spec := "fnExactNextNumber", apart := false }
def FnExactNextNumberSaid : Prop := fnExactNextNumberRow.holds Try.pinned (OpenSpec.ofChange fnExactNextNumberSpec)

/-- ITS FALSE NEIGHBOUR: 'it returns false'. Refute it at one input. -/
def fnExactNextNumberWrong : ChangeSpec := { name := "fnExactNextNumber", fn := fun _ => fun
  | [d1, d2] => { results := [.lit (.bool false)], args := [d1, d2] }
  | _ => none }
def FnExactNextNumberWrongFalsely : Prop := fnExactNextNumberRow.holds Try.pinned (OpenSpec.ofChange fnExactNextNumberWrong)

/-- 'laws.FnExactCountBlack': WHATEVER THE INPUT: true; the input reads as it did. -/
def fnExactCountBlackSpec : ChangeSpec := { name := "fnExactCountBlack", fn := fun _ => fun
  | [d] => { results := [.lit (.bool true)], args := [d] }
  | _ => none }
def fnExactCountBlackRow : OpenClaim := { program := "ytbihhjdjgcojjaa", sum := "52fff8fd53b8ef5b1c55c1eaf7c713a9bf3360a13227f2abb9ac83074a156877", func := "loop.example/g01312/laws.FnExactCountBlack", spec := "fnExactCountBlack", apart := false }
def FnExactCountBlackSaid : Prop := fnExactCountBlackRow.holds Try.pinned (OpenSpec.ofChange fnExactCountBlackSpec)

/-- ITS FALSE NEIGHBOUR: 'it returns false'. Refute it at one input. -/
def fnExactCountBlackWrong : ChangeSpec := { name := "fnExactCountBlack", fn := fun _ => fun
  | [d] => { results := [.lit (.bool false)], args := [d] }
  | _ => none }
def FnExactCountBlackWrongFalsely : Prop := fnExactCountBlackRow.holds Try.pinned (OpenSpec.ofChange fnExactCountBlackWrong)

/-- 'laws.FnExactValidLayer': WHATEVER THE INPUT: true; the input reads as it did. -/
def fnExactValidLayerSpec : ChangeSpec := { name := "fnExactValidLayer", fn := fun _ => fun
  | [d] => { results := [.lit (.bool true)], args := [d] }
  | _ => none }
def fnExactValidLayerRow : OpenClaim := { program := "ytbihhjdjgcojjaa", sum := "52fff8fd53b8ef5b1c55c1eaf7c713a9bf3360a13227f2abb9ac83074a156877", func := "loop.example/g01312/laws.FnExactValidLayer", spec := "fnExactValidLayer", apart := false }
def FnExactValidLayerSaid : Prop := fnExactValidLayerRow.holds Try.pinned (OpenSpec.ofChange fnExactValidLayerSpec)

/-- ITS FALSE NEIGHBOUR: 'it returns false'. Refute it at one input. -/
def fnExactValidLayerWrong : ChangeSpec := { name := "fnExactValidLayer", fn := fun _ => fun
  | [d] => { results := [.lit (.bool false)], args := [d] }
  | _ => none }
def FnExactValidLayerWrongFalsely : Prop := fnExactValidLayerRow.holds Try.pinned (OpenSpec.ofChange fnExactValidLayerWrong)

/-- 'laws.FnExactValidScheme': WHATEVER THE INPUT: true; the input reads as it did. -/
def fnExactValidSchemeSpec : ChangeSpec := { name := "fnExactValidScheme", fn := fun _ => fun
  | [d] => { results := [.lit (.bool true)], args := [d] }
  | _ => none }
def fnExactValidSchemeRow : OpenClaim := { program := "ytbihhjdjgcojjaa", sum := "52fff8fd53b8ef5b1c55c1eaf7c713a9bf3360a13227f2abb9ac83074a156877", func := "loop.example/g01312/laws.FnExactValidScheme", spec := "fnExactValidScheme", apart := false }
def FnExactValidSchemeSaid : Prop := fnExactValidSchemeRow.holds Try.pinned (OpenSpec.ofChange fnExactValidSchemeSpec)

/-- ITS FALSE NEIGHBOUR: 'it returns false'. Refute it at one input. -/
def fnExactValidSchemeWrong : ChangeSpec := { name := "fnExactValidScheme", fn := fun _ => fun
  | [d] => { results := [.lit (.bool false)], args := [d] }
  | _ => none }
def FnExactValidSchemeWrongFalsely : Prop := fnExactValidSchemeRow.holds Try.pinned (OpenSpec.ofChange fnExactValidSchemeWrong)

/- THE SECOND FORM. 'bulk': how many values and letters a reading holds, each counted each time it is reached (what is shared counts as often as it is met; a slice's spare places count too). A statement '..UptoSaid' is the law's where the arguments, and the package variables that the reading takes, are together of bulk at most 1048576: NARROWER than '..Said'. Prove '..Said' where nothing that the law and all that it calls make is longer than what came in: it says more and counts as full. Else prove '..UptoSaid'. A law counts once. -/
mutual
def uptoBulk {H : Type} : DataW H → Nat
  | .lit (.string bytes) => bytes.length + 1
  | .lit _ => 1
  | .nil => 1
  | .ptr d => uptoBulk d + 1
  | .slice elems spare => uptoBulkAll elems + uptoBulkAll spare + 1
  | .agg parts => uptoBulkAll parts + 1
  | .iface _ d => uptoBulk d + 1
  | .map entries => uptoBulkEntries entries + 1
  | .held _ => 1
def uptoBulkAll {H : Type} : List (DataW H) → Nat
  | [] => 0
  | d :: r => uptoBulk d + uptoBulkAll r
def uptoBulkEntries {H : Type} : List (Lit × DataW H) → Nat
  | [] => 0
  | x :: r => uptoBulkEntry x + uptoBulkEntries r
def uptoBulkEntry {H : Type} : Lit × DataW H → Nat
  | (.string bytes, d) => bytes.length + uptoBulk d + 1
  | (_, d) => uptoBulk d + 1
 end
def uptoSmall : (H : Type) → List (DataW H) → Bool := fun _ ds => decide (uptoBulkAll ds ≤ 1048576)
def OpenSpec.upto (s : _root_.Go.ChangeSpec) : _root_.Go.OpenSpec := { _root_.Go.OpenSpec.ofChange s with cond := some uptoSmall }

/-- 'laws.FnExactConstants', WHERE WHAT IT READS IS OF BULK AT MOST 1048576: true; the input reads as it did. -/
def fnExactConstantsUptoRow : OpenClaim := { program := "ytbihhjdjgcojjaa", sum := "52fff8fd53b8ef5b1c55c1eaf7c713a9bf3360a13227f2abb9ac83074a156877", func := "loop.example/g01312/laws.FnExactConstants", spec := "fnExactConstants", apart := false, narrowed := true }
def FnExactConstantsUptoSaid : Prop := fnExactConstantsUptoRow.holds Try.pinned (OpenSpec.upto fnExactConstantsSpec)

/-- 'laws.FnExactCodeName', WHERE WHAT IT READS IS OF BULK AT MOST 1048576: true; the input reads as it did. -/
def fnExactCodeNameUptoRow : OpenClaim := { program := "ytbihhjdjgcojjaa", sum := "52fff8fd53b8ef5b1c55c1eaf7c713a9bf3360a13227f2abb9ac83074a156877", func := "loop.example/g01312/laws.FnExactCodeName", spec := "fnExactCodeName", apart := false, narrowed := true }
def FnExactCodeNameUptoSaid : Prop := fnExactCodeNameUptoRow.holds Try.pinned (OpenSpec.upto fnExactCodeNameSpec)

/-- 'laws.FnExactNextNumber', WHERE WHAT IT READS IS OF BULK AT MOST 1048576: true; the input reads as it did. -/
def fnExactNextNumberUptoRow : OpenClaim := { program := "ytbihhjdjgcojjaa", sum := "52fff8fd53b8ef5b1c55c1eaf7c713a9bf3360a13227f2abb9ac83074a156877", func := "loop.example/g01312/laws.FnExactNextNumber", spec := "fnExactNextNumber", apart := false, narrowed := true }
def FnExactNextNumberUptoSaid : Prop := fnExactNextNumberUptoRow.holds Try.pinned (OpenSpec.upto fnExactNextNumberSpec)

/-- 'laws.FnExactCountBlack', WHERE WHAT IT READS IS OF BULK AT MOST 1048576: true; the input reads as it did. -/
def fnExactCountBlackUptoRow : OpenClaim := { program := "ytbihhjdjgcojjaa", sum := "52fff8fd53b8ef5b1c55c1eaf7c713a9bf3360a13227f2abb9ac83074a156877", func := "loop.example/g01312/laws.FnExactCountBlack", spec := "fnExactCountBlack", apart := false, narrowed := true }
def FnExactCountBlackUptoSaid : Prop := fnExactCountBlackUptoRow.holds Try.pinned (OpenSpec.upto fnExactCountBlackSpec)

/-- 'laws.FnExactValidLayer', WHERE WHAT IT READS IS OF BULK AT MOST 1048576: true; the input reads as it did. -/
def fnExactValidLayerUptoRow : OpenClaim := { program := "ytbihhjdjgcojjaa", sum := "52fff8fd53b8ef5b1c55c1eaf7c713a9bf3360a13227f2abb9ac83074a156877", func := "loop.example/g01312/laws.FnExactValidLayer", spec := "fnExactValidLayer", apart := false, narrowed := true }
def FnExactValidLayerUptoSaid : Prop := fnExactValidLayerUptoRow.holds Try.pinned (OpenSpec.upto fnExactValidLayerSpec)

/-- 'laws.FnExactValidScheme', WHERE WHAT IT READS IS OF BULK AT MOST 1048576: true; the input reads as it did. -/
def fnExactValidSchemeUptoRow : OpenClaim := { program := "ytbihhjdjgcojjaa", sum := "52fff8fd53b8ef5b1c55c1eaf7c713a9bf3360a13227f2abb9ac83074a156877", func := "loop.example/g01312/laws.FnExactValidScheme", spec := "fnExactValidScheme", apart := false, narrowed := true }
def FnExactValidSchemeUptoSaid : Prop := fnExactValidSchemeUptoRow.holds Try.pinned (OpenSpec.upto fnExactValidSchemeSpec)

end Rows
end Go.Proofs.Ytbihhjdjgcojjaa
