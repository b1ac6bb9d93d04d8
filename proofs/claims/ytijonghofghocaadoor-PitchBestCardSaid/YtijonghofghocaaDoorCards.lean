/-
  DERIVED. GIVEN WITH THE SEED: THE CARDS: each row of YtijonghofghocaaDoorRows.lean that lists a variable, with what it lists TIED to the program's text (the seventh form; the later family's looks); each row that meets fmt, with fmt's text TOLD by the authors' own Lean function (tested against real Go, not proved from fmt's source: count such statements apart). THE CARD IS WHAT COUNTS. Prove the row's statement (the work); the ties are given (YtijonghofghocaaDoorTie.lean); close each card by the builder's one call (the guide's Derived/Test/ToyasCard.lean, 'card_holds'). Laid BY PROGRAM, IN A SANDBOX (cutbox-door.mjs). By AI agents, Wed Nov 11 2026. No macro, syntax, notation, axiom, sorry.
-/
import Derived.Test.YtijonghofghocaaDoorRows
import GoSem.ClaimSeven
namespace Go.Proofs.YtijonghofghocaaDoor
namespace Rows

/-- THE TIED CARD OF 'declaimlaw05.PitchValues'. -/
def pitchValuesCard : Claim7 := { stood := { row := pitchValuesRow, standIns := [], harness := (true, "14afbdfec906d0f343d09de5466bdb71b2a1fdc1b08411913b08f0ed2145e047"), looks := false }, kinds := [], alts := [], laidByText := true, laidKinds := [.data], laidTests := true, laidLooks := .later }
def PitchValuesCardSaid : Prop := Claim7.holds Tryd.pinned (.plain (OpenSpec.ofChange pitchValuesSpec)) pitchValuesCard

/-- THE TIED CARD OF 'declaimlaw05.PitchCurves'. -/
def pitchCurvesCard : Claim7 := { stood := { row := pitchCurvesRow, standIns := [], harness := (true, "14afbdfec906d0f343d09de5466bdb71b2a1fdc1b08411913b08f0ed2145e047"), looks := false }, kinds := [], alts := [], laidByText := true, laidKinds := [.data], laidTests := true, laidLooks := .later }
def PitchCurvesCardSaid : Prop := Claim7.holds Tryd.pinned (.plain (OpenSpec.ofChange pitchCurvesSpec)) pitchCurvesCard

/-- THE TIED CARD OF 'declaimlaw05.PitchAdds'. -/
def pitchAddsCard : Claim7 := { stood := { row := pitchAddsRow, standIns := [], harness := (true, "14afbdfec906d0f343d09de5466bdb71b2a1fdc1b08411913b08f0ed2145e047"), looks := false }, kinds := [], alts := [], laidByText := true, laidKinds := [.data], laidTests := true, laidLooks := .later }
def PitchAddsCardSaid : Prop := Claim7.holds Tryd.pinned (.plain (OpenSpec.ofChange pitchAddsSpec)) pitchAddsCard

/-- THE TIED CARD OF 'declaimlaw05.PitchCosts'. -/
def pitchCostsCard : Claim7 := { stood := { row := pitchCostsRow, standIns := [], harness := (true, "14afbdfec906d0f343d09de5466bdb71b2a1fdc1b08411913b08f0ed2145e047"), looks := false }, kinds := [], alts := [], laidByText := true, laidKinds := [.data], laidTests := true, laidLooks := .later }
def PitchCostsCardSaid : Prop := Claim7.holds Tryd.pinned (.plain (OpenSpec.ofChange pitchCostsSpec)) pitchCostsCard

/-- THE TIED CARD OF 'declaimlaw05.PitchSettled'. -/
def pitchSettledCard : Claim7 := { stood := { row := pitchSettledRow, standIns := [], harness := (true, "14afbdfec906d0f343d09de5466bdb71b2a1fdc1b08411913b08f0ed2145e047"), looks := false }, kinds := [], alts := [], laidByText := true, laidKinds := [.data], laidTests := true, laidLooks := .later }
def PitchSettledCardSaid : Prop := Claim7.holds Tryd.pinned (.plain (OpenSpec.ofChange pitchSettledSpec)) pitchSettledCard

/-- THE TIED CARD OF 'declaimlaw05.PitchBest'. -/
def pitchBestCard : Claim7 := { stood := { row := pitchBestRow, standIns := [], harness := (true, "14afbdfec906d0f343d09de5466bdb71b2a1fdc1b08411913b08f0ed2145e047"), looks := false }, kinds := [], alts := [], laidByText := true, laidKinds := [.data], laidTests := true, laidLooks := .later }
def PitchBestCardSaid : Prop := Claim7.holds Tryd.pinned (.plain (OpenSpec.ofChange pitchBestSpec)) pitchBestCard

/-- THE TIED CARD OF 'declaimlaw05.PitchRaised'. -/
def pitchRaisedCard : Claim7 := { stood := { row := pitchRaisedRow, standIns := [], harness := (true, "14afbdfec906d0f343d09de5466bdb71b2a1fdc1b08411913b08f0ed2145e047"), looks := false }, kinds := [], alts := [], laidByText := true, laidKinds := [.data], laidTests := true, laidLooks := .later }
def PitchRaisedCardSaid : Prop := Claim7.holds Tryd.pinned (.plain (OpenSpec.ofChange pitchRaisedSpec)) pitchRaisedCard

/-- THE TIED CARD OF 'declaimlaw05.PitchPhase'. -/
def pitchPhaseCard : Claim7 := { stood := { row := pitchPhaseRow, standIns := [], harness := (true, "14afbdfec906d0f343d09de5466bdb71b2a1fdc1b08411913b08f0ed2145e047"), looks := false }, kinds := [], alts := [], laidByText := true, laidKinds := [.data], laidTests := true, laidLooks := .later }
def PitchPhaseCardSaid : Prop := Claim7.holds Tryd.pinned (.plain (OpenSpec.ofChange pitchPhaseSpec)) pitchPhaseCard

/-- THE TIED CARD OF 'declaimlaw05.PitchSings'. -/
def pitchSingsCard : Claim7 := { stood := { row := pitchSingsRow, standIns := [], harness := (true, "14afbdfec906d0f343d09de5466bdb71b2a1fdc1b08411913b08f0ed2145e047"), looks := false }, kinds := [], alts := [], laidByText := true, laidKinds := [.data], laidTests := true, laidLooks := .later }
def PitchSingsCardSaid : Prop := Claim7.holds Tryd.pinned (.plain (OpenSpec.ofChange pitchSingsSpec)) pitchSingsCard

/-- THE TIED CARD OF 'declaimlaw05.PitchKeys'. -/
def pitchKeysCard : Claim7 := { stood := { row := pitchKeysRow, standIns := [], harness := (true, "14afbdfec906d0f343d09de5466bdb71b2a1fdc1b08411913b08f0ed2145e047"), looks := false }, kinds := [], alts := [], laidByText := true, laidKinds := [.data], laidTests := true, laidLooks := .later }
def PitchKeysCardSaid : Prop := Claim7.holds Tryd.pinned (.plain (OpenSpec.ofChange pitchKeysSpec)) pitchKeysCard

/-- THE TIED CARD OF 'declaimlaw05.PitchFrequencies'. -/
def pitchFrequenciesCard : Claim7 := { stood := { row := pitchFrequenciesRow, standIns := [], harness := (true, "14afbdfec906d0f343d09de5466bdb71b2a1fdc1b08411913b08f0ed2145e047"), looks := false }, kinds := [], alts := [], laidByText := true, laidKinds := [.data], laidTests := true, laidLooks := .later }
def PitchFrequenciesCardSaid : Prop := Claim7.holds Tryd.pinned (.plain (OpenSpec.ofChange pitchFrequenciesSpec)) pitchFrequenciesCard

/-- THE TIED CARD OF 'declaimlaw05.PitchCents'. -/
def pitchCentsCard : Claim7 := { stood := { row := pitchCentsRow, standIns := [], harness := (true, "14afbdfec906d0f343d09de5466bdb71b2a1fdc1b08411913b08f0ed2145e047"), looks := false }, kinds := [], alts := [], laidByText := true, laidKinds := [.data], laidTests := true, laidLooks := .later }
def PitchCentsCardSaid : Prop := Claim7.holds Tryd.pinned (.plain (OpenSpec.ofChange pitchCentsSpec)) pitchCentsCard

/-- THE TIED CARD OF 'declaimlaw05.PitchPulses'. -/
def pitchPulsesCard : Claim7 := { stood := { row := pitchPulsesRow, standIns := [], harness := (true, "14afbdfec906d0f343d09de5466bdb71b2a1fdc1b08411913b08f0ed2145e047"), looks := false }, kinds := [], alts := [], laidByText := true, laidKinds := [.data], laidTests := true, laidLooks := .later }
def PitchPulsesCardSaid : Prop := Claim7.holds Tryd.pinned (.plain (OpenSpec.ofChange pitchPulsesSpec)) pitchPulsesCard

/-- THE SECOND FORM's CARD OF 'declaimlaw05.PitchValues'. -/
def pitchValuesUptoCard : Claim7 := { stood := { row := pitchValuesUptoRow, standIns := [], harness := (true, "14afbdfec906d0f343d09de5466bdb71b2a1fdc1b08411913b08f0ed2145e047"), looks := false }, kinds := [], alts := [], laidByText := true, laidKinds := [.data], laidTests := true, laidLooks := .later }
def PitchValuesUptoCardSaid : Prop := Claim7.holds Tryd.pinned (.plain (OpenSpec.upto pitchValuesSpec)) pitchValuesUptoCard

/-- THE SECOND FORM's CARD OF 'declaimlaw05.PitchCurves'. -/
def pitchCurvesUptoCard : Claim7 := { stood := { row := pitchCurvesUptoRow, standIns := [], harness := (true, "14afbdfec906d0f343d09de5466bdb71b2a1fdc1b08411913b08f0ed2145e047"), looks := false }, kinds := [], alts := [], laidByText := true, laidKinds := [.data], laidTests := true, laidLooks := .later }
def PitchCurvesUptoCardSaid : Prop := Claim7.holds Tryd.pinned (.plain (OpenSpec.upto pitchCurvesSpec)) pitchCurvesUptoCard

/-- THE SECOND FORM's CARD OF 'declaimlaw05.PitchAdds'. -/
def pitchAddsUptoCard : Claim7 := { stood := { row := pitchAddsUptoRow, standIns := [], harness := (true, "14afbdfec906d0f343d09de5466bdb71b2a1fdc1b08411913b08f0ed2145e047"), looks := false }, kinds := [], alts := [], laidByText := true, laidKinds := [.data], laidTests := true, laidLooks := .later }
def PitchAddsUptoCardSaid : Prop := Claim7.holds Tryd.pinned (.plain (OpenSpec.upto pitchAddsSpec)) pitchAddsUptoCard

/-- THE SECOND FORM's CARD OF 'declaimlaw05.PitchCosts'. -/
def pitchCostsUptoCard : Claim7 := { stood := { row := pitchCostsUptoRow, standIns := [], harness := (true, "14afbdfec906d0f343d09de5466bdb71b2a1fdc1b08411913b08f0ed2145e047"), looks := false }, kinds := [], alts := [], laidByText := true, laidKinds := [.data], laidTests := true, laidLooks := .later }
def PitchCostsUptoCardSaid : Prop := Claim7.holds Tryd.pinned (.plain (OpenSpec.upto pitchCostsSpec)) pitchCostsUptoCard

/-- THE SECOND FORM's CARD OF 'declaimlaw05.PitchSettled'. -/
def pitchSettledUptoCard : Claim7 := { stood := { row := pitchSettledUptoRow, standIns := [], harness := (true, "14afbdfec906d0f343d09de5466bdb71b2a1fdc1b08411913b08f0ed2145e047"), looks := false }, kinds := [], alts := [], laidByText := true, laidKinds := [.data], laidTests := true, laidLooks := .later }
def PitchSettledUptoCardSaid : Prop := Claim7.holds Tryd.pinned (.plain (OpenSpec.upto pitchSettledSpec)) pitchSettledUptoCard

/-- THE SECOND FORM's CARD OF 'declaimlaw05.PitchBest'. -/
def pitchBestUptoCard : Claim7 := { stood := { row := pitchBestUptoRow, standIns := [], harness := (true, "14afbdfec906d0f343d09de5466bdb71b2a1fdc1b08411913b08f0ed2145e047"), looks := false }, kinds := [], alts := [], laidByText := true, laidKinds := [.data], laidTests := true, laidLooks := .later }
def PitchBestUptoCardSaid : Prop := Claim7.holds Tryd.pinned (.plain (OpenSpec.upto pitchBestSpec)) pitchBestUptoCard

/-- THE SECOND FORM's CARD OF 'declaimlaw05.PitchRaised'. -/
def pitchRaisedUptoCard : Claim7 := { stood := { row := pitchRaisedUptoRow, standIns := [], harness := (true, "14afbdfec906d0f343d09de5466bdb71b2a1fdc1b08411913b08f0ed2145e047"), looks := false }, kinds := [], alts := [], laidByText := true, laidKinds := [.data], laidTests := true, laidLooks := .later }
def PitchRaisedUptoCardSaid : Prop := Claim7.holds Tryd.pinned (.plain (OpenSpec.upto pitchRaisedSpec)) pitchRaisedUptoCard

/-- THE SECOND FORM's CARD OF 'declaimlaw05.PitchPhase'. -/
def pitchPhaseUptoCard : Claim7 := { stood := { row := pitchPhaseUptoRow, standIns := [], harness := (true, "14afbdfec906d0f343d09de5466bdb71b2a1fdc1b08411913b08f0ed2145e047"), looks := false }, kinds := [], alts := [], laidByText := true, laidKinds := [.data], laidTests := true, laidLooks := .later }
def PitchPhaseUptoCardSaid : Prop := Claim7.holds Tryd.pinned (.plain (OpenSpec.upto pitchPhaseSpec)) pitchPhaseUptoCard

/-- THE SECOND FORM's CARD OF 'declaimlaw05.PitchSings'. -/
def pitchSingsUptoCard : Claim7 := { stood := { row := pitchSingsUptoRow, standIns := [], harness := (true, "14afbdfec906d0f343d09de5466bdb71b2a1fdc1b08411913b08f0ed2145e047"), looks := false }, kinds := [], alts := [], laidByText := true, laidKinds := [.data], laidTests := true, laidLooks := .later }
def PitchSingsUptoCardSaid : Prop := Claim7.holds Tryd.pinned (.plain (OpenSpec.upto pitchSingsSpec)) pitchSingsUptoCard

/-- THE SECOND FORM's CARD OF 'declaimlaw05.PitchKeys'. -/
def pitchKeysUptoCard : Claim7 := { stood := { row := pitchKeysUptoRow, standIns := [], harness := (true, "14afbdfec906d0f343d09de5466bdb71b2a1fdc1b08411913b08f0ed2145e047"), looks := false }, kinds := [], alts := [], laidByText := true, laidKinds := [.data], laidTests := true, laidLooks := .later }
def PitchKeysUptoCardSaid : Prop := Claim7.holds Tryd.pinned (.plain (OpenSpec.upto pitchKeysSpec)) pitchKeysUptoCard

/-- THE SECOND FORM's CARD OF 'declaimlaw05.PitchFrequencies'. -/
def pitchFrequenciesUptoCard : Claim7 := { stood := { row := pitchFrequenciesUptoRow, standIns := [], harness := (true, "14afbdfec906d0f343d09de5466bdb71b2a1fdc1b08411913b08f0ed2145e047"), looks := false }, kinds := [], alts := [], laidByText := true, laidKinds := [.data], laidTests := true, laidLooks := .later }
def PitchFrequenciesUptoCardSaid : Prop := Claim7.holds Tryd.pinned (.plain (OpenSpec.upto pitchFrequenciesSpec)) pitchFrequenciesUptoCard

/-- THE SECOND FORM's CARD OF 'declaimlaw05.PitchCents'. -/
def pitchCentsUptoCard : Claim7 := { stood := { row := pitchCentsUptoRow, standIns := [], harness := (true, "14afbdfec906d0f343d09de5466bdb71b2a1fdc1b08411913b08f0ed2145e047"), looks := false }, kinds := [], alts := [], laidByText := true, laidKinds := [.data], laidTests := true, laidLooks := .later }
def PitchCentsUptoCardSaid : Prop := Claim7.holds Tryd.pinned (.plain (OpenSpec.upto pitchCentsSpec)) pitchCentsUptoCard

/-- THE SECOND FORM's CARD OF 'declaimlaw05.PitchPulses'. -/
def pitchPulsesUptoCard : Claim7 := { stood := { row := pitchPulsesUptoRow, standIns := [], harness := (true, "14afbdfec906d0f343d09de5466bdb71b2a1fdc1b08411913b08f0ed2145e047"), looks := false }, kinds := [], alts := [], laidByText := true, laidKinds := [.data], laidTests := true, laidLooks := .later }
def PitchPulsesUptoCardSaid : Prop := Claim7.holds Tryd.pinned (.plain (OpenSpec.upto pitchPulsesSpec)) pitchPulsesUptoCard
end Rows
end Go.Proofs.YtijonghofghocaaDoor
