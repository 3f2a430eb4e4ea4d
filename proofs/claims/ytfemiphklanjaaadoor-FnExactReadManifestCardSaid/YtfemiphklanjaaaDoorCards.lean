/-
  DERIVED. GIVEN WITH THE SEED: THE CARDS: each row of YtfemiphklanjaaaDoorRows.lean that lists a variable, with what it lists TIED to the program's text (the seventh form; the later family's looks); each row that meets fmt, with fmt's text TOLD by the authors' own Lean function (tested against real Go, not proved from fmt's source: count such statements apart). THE CARD IS WHAT COUNTS. Prove the row's statement (the work); the ties are given (YtfemiphklanjaaaDoorTie.lean); close each card by the builder's one call (the guide's Derived/Test/ToyasCard.lean, 'card_holds'). Laid BY PROGRAM, IN A SANDBOX (cutbox-door.mjs). By AI agents, Wed Nov 11 2026. No macro, syntax, notation, axiom, sorry.
-/
import Derived.Test.YtfemiphklanjaaaDoorRows
import GoSem.ClaimSeven
namespace Go.Proofs.YtfemiphklanjaaaDoor
namespace Rows

/-- THE TIED CARD OF 'laws.FnExactManifestText'. -/
def fnExactManifestTextCard : Claim7 := { stood := { row := fnExactManifestTextRow, standIns := [], harness := (true, "31edf84b09365fb608ac8285bb97b37d1a064666330e3c073ab805a337ec5a76"), looks := true }, kinds := [], alts := [], laidByText := true, laidKinds := [.data, .data, .data], laidTests := true, laidLooks := .later }
def FnExactManifestTextCardSaid : Prop := Claim7.holds Tryd.pinned (.plain (OpenSpec.ofChange fnExactManifestTextSpec)) fnExactManifestTextCard

/-- THE TIED CARD OF 'laws.FnExactReadManifest'. -/
def fnExactReadManifestCard : Claim7 := { stood := { row := fnExactReadManifestRow, standIns := [], harness := (true, "31edf84b09365fb608ac8285bb97b37d1a064666330e3c073ab805a337ec5a76"), looks := true }, kinds := [], alts := [], laidByText := true, laidKinds := [.data, .data, .data], laidTests := true, laidLooks := .later }
def FnExactReadManifestCardSaid : Prop := Claim7.holds Tryd.pinned (.plain (OpenSpec.ofChange fnExactReadManifestSpec)) fnExactReadManifestCard

/-- THE TIED CARD OF 'laws.FnExactReadRecord'. -/
def fnExactReadRecordCard : Claim7 := { stood := { row := fnExactReadRecordRow, standIns := [], harness := (true, "31edf84b09365fb608ac8285bb97b37d1a064666330e3c073ab805a337ec5a76"), looks := true }, kinds := [], alts := [], laidByText := true, laidKinds := [.data, .data, .data, .data, .sentinel, .sentinel, .pinned], laidTests := true, laidLooks := .later }
def FnExactReadRecordCardSaid : Prop := Claim7.holds Tryd.pinned (.plain (OpenSpec.ofChange fnExactReadRecordSpec)) fnExactReadRecordCard

/-- THE SECOND FORM's CARD OF 'laws.FnExactManifestText'. -/
def fnExactManifestTextUptoCard : Claim7 := { stood := { row := fnExactManifestTextUptoRow, standIns := [], harness := (true, "31edf84b09365fb608ac8285bb97b37d1a064666330e3c073ab805a337ec5a76"), looks := true }, kinds := [], alts := [], laidByText := true, laidKinds := [.data, .data, .data], laidTests := true, laidLooks := .later }
def FnExactManifestTextUptoCardSaid : Prop := Claim7.holds Tryd.pinned (.plain (OpenSpec.upto fnExactManifestTextSpec)) fnExactManifestTextUptoCard

/-- THE SECOND FORM's CARD OF 'laws.FnExactReadManifest'. -/
def fnExactReadManifestUptoCard : Claim7 := { stood := { row := fnExactReadManifestUptoRow, standIns := [], harness := (true, "31edf84b09365fb608ac8285bb97b37d1a064666330e3c073ab805a337ec5a76"), looks := true }, kinds := [], alts := [], laidByText := true, laidKinds := [.data, .data, .data], laidTests := true, laidLooks := .later }
def FnExactReadManifestUptoCardSaid : Prop := Claim7.holds Tryd.pinned (.plain (OpenSpec.upto fnExactReadManifestSpec)) fnExactReadManifestUptoCard

/-- THE SECOND FORM's CARD OF 'laws.FnExactReadRecord'. -/
def fnExactReadRecordUptoCard : Claim7 := { stood := { row := fnExactReadRecordUptoRow, standIns := [], harness := (true, "31edf84b09365fb608ac8285bb97b37d1a064666330e3c073ab805a337ec5a76"), looks := true }, kinds := [], alts := [], laidByText := true, laidKinds := [.data, .data, .data, .data, .sentinel, .sentinel, .pinned], laidTests := true, laidLooks := .later }
def FnExactReadRecordUptoCardSaid : Prop := Claim7.holds Tryd.pinned (.plain (OpenSpec.upto fnExactReadRecordSpec)) fnExactReadRecordUptoCard
end Rows
end Go.Proofs.YtfemiphklanjaaaDoor
