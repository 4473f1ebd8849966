/-
  DERIVED. GIVEN WITH THE SEED: THE CARDS: each row of YtpigonlbdleaeaaDoorRows.lean that lists a variable, with what it lists TIED to the program's text (the seventh form; the later family's looks); each row that meets fmt, with fmt's text TOLD by the authors' own Lean function (tested against real Go, not proved from fmt's source: count such statements apart). THE CARD IS WHAT COUNTS. Prove the row's statement (the work); the ties are given (YtpigonlbdleaeaaDoorTie.lean); close each card by the builder's one call (the guide's Derived/Test/ToyasCard.lean, 'card_holds'). Laid BY PROGRAM, IN A SANDBOX (cutbox-door.mjs). By AI agents, Wed Nov 11 2026. No macro, syntax, notation, axiom, sorry.
-/
import Derived.Test.YtpigonlbdleaeaaDoorRows
import GoSem.ClaimSeven
namespace Go.Proofs.YtpigonlbdleaeaaDoor
namespace Rows

/-- THE TIED CARD OF 'wireloomlaw03.HammingMatchesReference'. -/
def hammingMatchesReferenceCard : Claim7 := { stood := { row := hammingMatchesReferenceRow, standIns := [], harness := (true, "6edefb6c1301fac3bc0a75c55f2f34df8012e754dc34c43f9fb97fa2fe6bd748"), looks := false }, kinds := [], alts := [], laidByText := true, laidKinds := [.data], laidTests := true, laidLooks := .later }
def HammingMatchesReferenceCardSaid : Prop := Claim7.holds Tryd.pinned (.plain (OpenSpec.ofChange hammingMatchesReferenceSpec)) hammingMatchesReferenceCard

/-- THE TIED CARD OF 'wireloomlaw03.HammingRoundTrip'. -/
def hammingRoundTripCard : Claim7 := { stood := { row := hammingRoundTripRow, standIns := [], harness := (true, "6edefb6c1301fac3bc0a75c55f2f34df8012e754dc34c43f9fb97fa2fe6bd748"), looks := false }, kinds := [], alts := [], laidByText := true, laidKinds := [.data], laidTests := true, laidLooks := .later }
def HammingRoundTripCardSaid : Prop := Claim7.holds Tryd.pinned (.plain (OpenSpec.ofChange hammingRoundTripSpec)) hammingRoundTripCard

/-- THE TIED CARD OF 'wireloomlaw03.HammingCorrects'. -/
def hammingCorrectsCard : Claim7 := { stood := { row := hammingCorrectsRow, standIns := [], harness := (true, "6edefb6c1301fac3bc0a75c55f2f34df8012e754dc34c43f9fb97fa2fe6bd748"), looks := false }, kinds := [], alts := [], laidByText := true, laidKinds := [.data], laidTests := true, laidLooks := .later }
def HammingCorrectsCardSaid : Prop := Claim7.holds Tryd.pinned (.plain (OpenSpec.ofChange hammingCorrectsSpec)) hammingCorrectsCard

/-- THE TIED CARD OF 'wireloomlaw03.HammingDetects'. -/
def hammingDetectsCard : Claim7 := { stood := { row := hammingDetectsRow, standIns := [], harness := (true, "6edefb6c1301fac3bc0a75c55f2f34df8012e754dc34c43f9fb97fa2fe6bd748"), looks := false }, kinds := [], alts := [], laidByText := true, laidKinds := [.data], laidTests := true, laidLooks := .later }
def HammingDetectsCardSaid : Prop := Claim7.holds Tryd.pinned (.plain (OpenSpec.ofChange hammingDetectsSpec)) hammingDetectsCard

/-- THE TIED CARD OF 'wireloomlaw03.HammingDistances'. -/
def hammingDistancesCard : Claim7 := { stood := { row := hammingDistancesRow, standIns := [], harness := (true, "6edefb6c1301fac3bc0a75c55f2f34df8012e754dc34c43f9fb97fa2fe6bd748"), looks := false }, kinds := [], alts := [], laidByText := true, laidKinds := [.data], laidTests := true, laidLooks := .later }
def HammingDistancesCardSaid : Prop := Claim7.holds Tryd.pinned (.plain (OpenSpec.ofChange hammingDistancesSpec)) hammingDistancesCard

/-- THE TIED CARD OF 'wireloomlaw03.HammingWords'. -/
def hammingWordsCard : Claim7 := { stood := { row := hammingWordsRow, standIns := [], harness := (true, "6edefb6c1301fac3bc0a75c55f2f34df8012e754dc34c43f9fb97fa2fe6bd748"), looks := false }, kinds := [], alts := [], laidByText := true, laidKinds := [.data], laidTests := true, laidLooks := .later }
def HammingWordsCardSaid : Prop := Claim7.holds Tryd.pinned (.plain (OpenSpec.ofChange hammingWordsSpec)) hammingWordsCard

/-- THE SECOND FORM's CARD OF 'wireloomlaw03.HammingMatchesReference'. -/
def hammingMatchesReferenceUptoCard : Claim7 := { stood := { row := hammingMatchesReferenceUptoRow, standIns := [], harness := (true, "6edefb6c1301fac3bc0a75c55f2f34df8012e754dc34c43f9fb97fa2fe6bd748"), looks := false }, kinds := [], alts := [], laidByText := true, laidKinds := [.data], laidTests := true, laidLooks := .later }
def HammingMatchesReferenceUptoCardSaid : Prop := Claim7.holds Tryd.pinned (.plain (OpenSpec.upto hammingMatchesReferenceSpec)) hammingMatchesReferenceUptoCard

/-- THE SECOND FORM's CARD OF 'wireloomlaw03.HammingRoundTrip'. -/
def hammingRoundTripUptoCard : Claim7 := { stood := { row := hammingRoundTripUptoRow, standIns := [], harness := (true, "6edefb6c1301fac3bc0a75c55f2f34df8012e754dc34c43f9fb97fa2fe6bd748"), looks := false }, kinds := [], alts := [], laidByText := true, laidKinds := [.data], laidTests := true, laidLooks := .later }
def HammingRoundTripUptoCardSaid : Prop := Claim7.holds Tryd.pinned (.plain (OpenSpec.upto hammingRoundTripSpec)) hammingRoundTripUptoCard

/-- THE SECOND FORM's CARD OF 'wireloomlaw03.HammingCorrects'. -/
def hammingCorrectsUptoCard : Claim7 := { stood := { row := hammingCorrectsUptoRow, standIns := [], harness := (true, "6edefb6c1301fac3bc0a75c55f2f34df8012e754dc34c43f9fb97fa2fe6bd748"), looks := false }, kinds := [], alts := [], laidByText := true, laidKinds := [.data], laidTests := true, laidLooks := .later }
def HammingCorrectsUptoCardSaid : Prop := Claim7.holds Tryd.pinned (.plain (OpenSpec.upto hammingCorrectsSpec)) hammingCorrectsUptoCard

/-- THE SECOND FORM's CARD OF 'wireloomlaw03.HammingDetects'. -/
def hammingDetectsUptoCard : Claim7 := { stood := { row := hammingDetectsUptoRow, standIns := [], harness := (true, "6edefb6c1301fac3bc0a75c55f2f34df8012e754dc34c43f9fb97fa2fe6bd748"), looks := false }, kinds := [], alts := [], laidByText := true, laidKinds := [.data], laidTests := true, laidLooks := .later }
def HammingDetectsUptoCardSaid : Prop := Claim7.holds Tryd.pinned (.plain (OpenSpec.upto hammingDetectsSpec)) hammingDetectsUptoCard

/-- THE SECOND FORM's CARD OF 'wireloomlaw03.HammingDistances'. -/
def hammingDistancesUptoCard : Claim7 := { stood := { row := hammingDistancesUptoRow, standIns := [], harness := (true, "6edefb6c1301fac3bc0a75c55f2f34df8012e754dc34c43f9fb97fa2fe6bd748"), looks := false }, kinds := [], alts := [], laidByText := true, laidKinds := [.data], laidTests := true, laidLooks := .later }
def HammingDistancesUptoCardSaid : Prop := Claim7.holds Tryd.pinned (.plain (OpenSpec.upto hammingDistancesSpec)) hammingDistancesUptoCard

/-- THE SECOND FORM's CARD OF 'wireloomlaw03.HammingWords'. -/
def hammingWordsUptoCard : Claim7 := { stood := { row := hammingWordsUptoRow, standIns := [], harness := (true, "6edefb6c1301fac3bc0a75c55f2f34df8012e754dc34c43f9fb97fa2fe6bd748"), looks := false }, kinds := [], alts := [], laidByText := true, laidKinds := [.data], laidTests := true, laidLooks := .later }
def HammingWordsUptoCardSaid : Prop := Claim7.holds Tryd.pinned (.plain (OpenSpec.upto hammingWordsSpec)) hammingWordsUptoCard
end Rows
end Go.Proofs.YtpigonlbdleaeaaDoor
