/-
  No cell of these rows narrows 'for every input' (looked for: loops, veiled, ifaces, maps, wideKeys, modest, calm, conditions, laid).
  DERIVED. THE GIVEN ROWS OF THIS SEAT. 2 by the template 'for every input the law returns true; each argument reads behind the call as it read before'; 0 by the template 'total and deterministic' (their statements: YtpajbcifaicpoaaTotals.lean).
  GIVEN WITH THE SEED: the statements are not yours to turn. If you find one false, say at which input.
  Laid BY PROGRAM, IN A SANDBOX (cutbox-rows.mjs): the forced cells as the released guide's own fill.sh prints them over the translation a2420026eb1ab1d8… (all of the seat's roots in one cut). By AI agents, Wed Nov 11 2026. No macro, syntax, notation, axiom, sorry.
-/
import Derived.Test.YtpajbcifaicpoaaChecked
import GoSem.Claim
import GoSem.ClaimJoined
import GoSem.ClaimMapViews
import Derived.JoinedTies
import Derived.KernelRfl
namespace Go.Proofs.Ytpajbcifaicpoaa
/- THE CELL 'sum', in the pinned program and in every row, IS THE sha256 OF THE DUMP (.gsa) THAT YtpajbcifaicpoaaProg.lean LOADS. Nothing in Lean hashes anything: it is a label: what it is worth is what the hold of that sum in a sandbox is worth. -/
noncomputable def Try.pinned : Pinned := { name := "ytpajbcifaicpoaa", sum := "a2420026eb1ab1d8b68c2e204dec3581308d81dc7b4506546231a280c3707fed", checked := Try.checked }
namespace Rows
def none {H : Type} : Left H := { results := [], args := [] }

/-- 'laws.FnExactSchemeText': WHATEVER THE INPUT: true; the input reads as it did. -/
def fnExactSchemeTextSpec : ChangeSpec := { name := "fnExactSchemeText", fn := fun _ => fun
  | [d] => { results := [.lit (.bool true)], args := [d] }
  | _ => none }
def fnExactSchemeTextRow : OpenClaim := { program := "ytpajbcifaicpoaa", sum := "a2420026eb1ab1d8b68c2e204dec3581308d81dc7b4506546231a280c3707fed", func := "loop.example/g01312/laws.FnExactSchemeText", spec := "fnExactSchemeText", inPlace := ["internal/abi.NoEscape"], unfollowed := true, recurses := true, apart := false }
def FnExactSchemeTextSaid : Prop := fnExactSchemeTextRow.holds Try.pinned (OpenSpec.ofChange fnExactSchemeTextSpec)

/-- ITS FALSE NEIGHBOUR: 'it returns false'. Refute it at one input. -/
def fnExactSchemeTextWrong : ChangeSpec := { name := "fnExactSchemeText", fn := fun _ => fun
  | [d] => { results := [.lit (.bool false)], args := [d] }
  | _ => none }
def FnExactSchemeTextWrongFalsely : Prop := fnExactSchemeTextRow.holds Try.pinned (OpenSpec.ofChange fnExactSchemeTextWrong)

/-- 'laws.FnExactAllOf': WHATEVER THE INPUT: true; the input reads as it did. -/
def fnExactAllOfSpec : ChangeSpec := { name := "fnExactAllOf", fn := fun _ => fun
  | [d] => { results := [.lit (.bool true)], args := [d] }
  | _ => none }
def fnExactAllOfRow : OpenClaim := { program := "ytpajbcifaicpoaa", sum := "a2420026eb1ab1d8b68c2e204dec3581308d81dc7b4506546231a280c3707fed", func := "loop.example/g01312/laws.FnExactAllOf", spec := "fnExactAllOf", apart := false }
def FnExactAllOfSaid : Prop := fnExactAllOfRow.holds Try.pinned (OpenSpec.ofChange fnExactAllOfSpec)

/-- ITS FALSE NEIGHBOUR: 'it returns false'. Refute it at one input. -/
def fnExactAllOfWrong : ChangeSpec := { name := "fnExactAllOf", fn := fun _ => fun
  | [d] => { results := [.lit (.bool false)], args := [d] }
  | _ => none }
def FnExactAllOfWrongFalsely : Prop := fnExactAllOfRow.holds Try.pinned (OpenSpec.ofChange fnExactAllOfWrong)

/- THE SECOND FORM. 'bulk': how many values and letters a reading holds, each counted each time it is reached (what is shared counts as often as it is met; a slice's spare places count too). A statement '..UptoSaid' is the law's where the arguments, and the package variables that the reading takes, are together of bulk at most 1048576: NARROWER than '..Said'. Prove '..Said' where nothing that the law and all that it calls make is longer than what came in: it says more and counts as full. Else prove '..UptoSaid'. A law counts once. -/
mutual
def uptoBulk {H : Type} : DataW H → Nat
  | .lit (.string bytes) => bytes.length + 1
  | .lit _ => 1
  | .nil => 1
  | .ptr d => uptoBulk d + 1
  | .slice elems spare => uptoBulkAll elems + uptoBulkAll spare + 1
  | .agg parts => uptoBulkAll parts + 1
  | .iface _ d => uptoBulk d + 1
  | .map entries => uptoBulkEntries entries + 1
  | .held _ => 1
def uptoBulkAll {H : Type} : List (DataW H) → Nat
  | [] => 0
  | d :: r => uptoBulk d + uptoBulkAll r
def uptoBulkEntries {H : Type} : List (Lit × DataW H) → Nat
  | [] => 0
  | x :: r => uptoBulkEntry x + uptoBulkEntries r
def uptoBulkEntry {H : Type} : Lit × DataW H → Nat
  | (.string bytes, d) => bytes.length + uptoBulk d + 1
  | (_, d) => uptoBulk d + 1
 end
def uptoSmall : (H : Type) → List (DataW H) → Bool := fun _ ds => decide (uptoBulkAll ds ≤ 1048576)
def OpenSpec.upto (s : _root_.Go.ChangeSpec) : _root_.Go.OpenSpec := { _root_.Go.OpenSpec.ofChange s with cond := some uptoSmall }

/-- 'laws.FnExactSchemeText', WHERE WHAT IT READS IS OF BULK AT MOST 1048576: true; the input reads as it did. -/
def fnExactSchemeTextUptoRow : OpenClaim := { program := "ytpajbcifaicpoaa", sum := "a2420026eb1ab1d8b68c2e204dec3581308d81dc7b4506546231a280c3707fed", func := "loop.example/g01312/laws.FnExactSchemeText", spec := "fnExactSchemeText", inPlace := ["internal/abi.NoEscape"], unfollowed := true, recurses := true, apart := false, narrowed := true }
def FnExactSchemeTextUptoSaid : Prop := fnExactSchemeTextUptoRow.holds Try.pinned (OpenSpec.upto fnExactSchemeTextSpec)

/-- 'laws.FnExactAllOf', WHERE WHAT IT READS IS OF BULK AT MOST 1048576: true; the input reads as it did. -/
def fnExactAllOfUptoRow : OpenClaim := { program := "ytpajbcifaicpoaa", sum := "a2420026eb1ab1d8b68c2e204dec3581308d81dc7b4506546231a280c3707fed", func := "loop.example/g01312/laws.FnExactAllOf", spec := "fnExactAllOf", apart := false, narrowed := true }
def FnExactAllOfUptoSaid : Prop := fnExactAllOfUptoRow.holds Try.pinned (OpenSpec.upto fnExactAllOfSpec)

end Rows
end Go.Proofs.Ytpajbcifaicpoaa
