/-
  DERIVED. GIVEN WITH THE SEED: THE CARDS: each row of YtpajbcifaicpoaaDoorRows.lean that lists a variable, with what it lists TIED to the program's text (the seventh form; the later family's looks); each row that meets fmt, with fmt's text TOLD by the authors' own Lean function (tested against real Go, not proved from fmt's source: count such statements apart). THE CARD IS WHAT COUNTS. Prove the row's statement (the work); the ties are given (YtpajbcifaicpoaaDoorTie.lean); close each card by the builder's one call (the guide's Derived/Test/ToyasCard.lean, 'card_holds'). Laid BY PROGRAM, IN A SANDBOX (cutbox-door.mjs). By AI agents, Wed Nov 11 2026. No macro, syntax, notation, axiom, sorry.
-/
import Derived.Test.YtpajbcifaicpoaaDoorRows
import GoSem.ClaimSeven
namespace Go.Proofs.YtpajbcifaicpoaaDoor
namespace Rows

/-- THE TIED CARD OF 'laws.FnExactLayerText'. -/
def fnExactLayerTextCard : Claim7 := { stood := { row := fnExactLayerTextRow, standIns := [], harness := (true, "51f3cef1f2eaa367a38c2ac72d990264e07338996dc74d8a61d1492d55cbb6ac"), looks := true }, kinds := [], alts := [], laidByText := true, laidKinds := [.data, .data, .data], laidTests := true, laidLooks := .later }
def FnExactLayerTextCardSaid : Prop := Claim7.holds Tryd.pinned (.plain (OpenSpec.ofChange fnExactLayerTextSpec)) fnExactLayerTextCard

/-- THE TIED CARD OF 'laws.FnExactLayersText'. -/
def fnExactLayersTextCard : Claim7 := { stood := { row := fnExactLayersTextRow, standIns := [], harness := (true, "51f3cef1f2eaa367a38c2ac72d990264e07338996dc74d8a61d1492d55cbb6ac"), looks := true }, kinds := [], alts := [], laidByText := true, laidKinds := [.data, .data, .data], laidTests := true, laidLooks := .later }
def FnExactLayersTextCardSaid : Prop := Claim7.holds Tryd.pinned (.plain (OpenSpec.ofChange fnExactLayersTextSpec)) fnExactLayersTextCard

/-- THE TIED CARD OF 'laws.FnExactReadScheme'. -/
def fnExactReadSchemeCard : Claim7 := { stood := { row := fnExactReadSchemeRow, standIns := [], harness := (true, "51f3cef1f2eaa367a38c2ac72d990264e07338996dc74d8a61d1492d55cbb6ac"), looks := true }, kinds := [], alts := [], laidByText := true, laidKinds := [.data, .pinned], laidTests := true, laidLooks := .later }
def FnExactReadSchemeCardSaid : Prop := Claim7.holds Tryd.pinned (.plain (OpenSpec.ofChange fnExactReadSchemeSpec)) fnExactReadSchemeCard

/-- THE TIED CARD OF 'laws.FnExactReadLayer'. -/
def fnExactReadLayerCard : Claim7 := { stood := { row := fnExactReadLayerRow, standIns := [], harness := (true, "51f3cef1f2eaa367a38c2ac72d990264e07338996dc74d8a61d1492d55cbb6ac"), looks := true }, kinds := [], alts := [], laidByText := true, laidKinds := [.data, .data, .data, .sentinel, .sentinel], laidTests := true, laidLooks := .later }
def FnExactReadLayerCardSaid : Prop := Claim7.holds Tryd.pinned (.plain (OpenSpec.ofChange fnExactReadLayerSpec)) fnExactReadLayerCard

/-- THE SECOND FORM's CARD OF 'laws.FnExactLayerText'. -/
def fnExactLayerTextUptoCard : Claim7 := { stood := { row := fnExactLayerTextUptoRow, standIns := [], harness := (true, "51f3cef1f2eaa367a38c2ac72d990264e07338996dc74d8a61d1492d55cbb6ac"), looks := true }, kinds := [], alts := [], laidByText := true, laidKinds := [.data, .data, .data], laidTests := true, laidLooks := .later }
def FnExactLayerTextUptoCardSaid : Prop := Claim7.holds Tryd.pinned (.plain (OpenSpec.upto fnExactLayerTextSpec)) fnExactLayerTextUptoCard

/-- THE SECOND FORM's CARD OF 'laws.FnExactLayersText'. -/
def fnExactLayersTextUptoCard : Claim7 := { stood := { row := fnExactLayersTextUptoRow, standIns := [], harness := (true, "51f3cef1f2eaa367a38c2ac72d990264e07338996dc74d8a61d1492d55cbb6ac"), looks := true }, kinds := [], alts := [], laidByText := true, laidKinds := [.data, .data, .data], laidTests := true, laidLooks := .later }
def FnExactLayersTextUptoCardSaid : Prop := Claim7.holds Tryd.pinned (.plain (OpenSpec.upto fnExactLayersTextSpec)) fnExactLayersTextUptoCard

/-- THE SECOND FORM's CARD OF 'laws.FnExactReadScheme'. -/
def fnExactReadSchemeUptoCard : Claim7 := { stood := { row := fnExactReadSchemeUptoRow, standIns := [], harness := (true, "51f3cef1f2eaa367a38c2ac72d990264e07338996dc74d8a61d1492d55cbb6ac"), looks := true }, kinds := [], alts := [], laidByText := true, laidKinds := [.data, .pinned], laidTests := true, laidLooks := .later }
def FnExactReadSchemeUptoCardSaid : Prop := Claim7.holds Tryd.pinned (.plain (OpenSpec.upto fnExactReadSchemeSpec)) fnExactReadSchemeUptoCard

/-- THE SECOND FORM's CARD OF 'laws.FnExactReadLayer'. -/
def fnExactReadLayerUptoCard : Claim7 := { stood := { row := fnExactReadLayerUptoRow, standIns := [], harness := (true, "51f3cef1f2eaa367a38c2ac72d990264e07338996dc74d8a61d1492d55cbb6ac"), looks := true }, kinds := [], alts := [], laidByText := true, laidKinds := [.data, .data, .data, .sentinel, .sentinel], laidTests := true, laidLooks := .later }
def FnExactReadLayerUptoCardSaid : Prop := Claim7.holds Tryd.pinned (.plain (OpenSpec.upto fnExactReadLayerSpec)) fnExactReadLayerUptoCard
end Rows
end Go.Proofs.YtpajbcifaicpoaaDoor
