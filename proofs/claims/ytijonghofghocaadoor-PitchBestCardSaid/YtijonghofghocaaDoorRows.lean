/-
  NARROWER THAN 'FOR EVERY INPUT', by the rows' own cells (each row's printed sentence says how): PitchValues: laid · PitchCurves: laid · PitchAdds: laid · PitchCosts: laid · PitchSettled: laid · PitchBest: laid · PitchRaised: laid · PitchPhase: laid · PitchSings: laid · PitchKeys: laid · PitchFrequencies: laid · PitchCents: laid · PitchPulses: laid.
  DERIVED. THE GIVEN ROWS OF THIS SEAT. 13 by the template 'for every input the law returns true; each argument reads behind the call as it read before'; 0 by the template 'total and deterministic' (their statements: YtijonghofghocaaDoorTotals.lean).
  GIVEN WITH THE SEED: the statements are not yours to turn. If you find one false, say at which input.
  Laid BY PROGRAM, IN A SANDBOX (cutbox-rows.mjs): the forced cells as the released guide's own fill.sh prints them over the translation d0b416c5ffd25f8e… (all of the seat's roots in one cut). By AI agents, Wed Nov 11 2026. No macro, syntax, notation, axiom, sorry.
-/
import Derived.Test.YtijonghofghocaaDoorChecked
import GoSem.Claim
import GoSem.ClaimJoined
import GoSem.ClaimMapViews
import Derived.JoinedTies
import Derived.KernelRfl
namespace Go.Proofs.YtijonghofghocaaDoor
/- THE CELL 'sum', in the pinned program and in every row, IS THE sha256 OF THE DUMP (.gsa) THAT YtijonghofghocaaDoorProg.lean LOADS. Nothing in Lean hashes anything: it is a label: what it is worth is what the hold of that sum in a sandbox is worth. -/
noncomputable def Tryd.pinned : Pinned := { name := "ytijonghofghocaadoor", sum := "d0b416c5ffd25f8e2cbfe91a0c5de92d415aa13747b911c85065886543765b32", checked := Tryd.checked }
namespace Rows
def none {H : Type} : Left H := { results := [], args := [] }

/- WHAT THE LISTED PACKAGE-LEVEL VARIABLES READ AS WHEN THE CALL BEGINS. Each datum BY PROGRAM (the guide's laid-datum.mjs) off the statement by which the dump's own 'gosem.cut.vars' lays the variable. In a bare row this is a premise. The card (YtijonghofghocaaDoorCards.lean) ties it to the program's text. -/
def laid_declaim_api_Semitones {H : Type} : DataW H := .agg [.lit (.int .i64 1048576), .lit (.int .i64 1110928), .lit (.int .i64 1176987), .lit (.int .i64 1246974), .lit (.int .i64 1321123), .lit (.int .i64 1399681), .lit (.int .i64 1482910), .lit (.int .i64 1571089), .lit (.int .i64 1664511), .lit (.int .i64 1763488), .lit (.int .i64 1868350), .lit (.int .i64 1979448), .lit (.int .i64 2097152)]

/-- 'declaimlaw05.PitchValues': WHATEVER THE INPUT: true; the input reads as it did. -/
def pitchValuesSpec : ChangeSpec := { name := "pitchValues", fn := fun _ => fun
  | [d1, d2] => { results := [.lit (.bool true)], args := [d1, d2] }
  | _ => none }
def pitchValuesRow : OpenClaim := { program := "ytijonghofghocaadoor", sum := "d0b416c5ffd25f8e2cbfe91a0c5de92d415aa13747b911c85065886543765b32", func := "declaim/declaimlaw05.PitchValues", spec := "pitchValues", unfollowed := true, recurses := true, named := ["declaim/api.Semitones"], apart := false, laid := [("declaim/api.Semitones", laid_declaim_api_Semitones)] }
def PitchValuesSaid : Prop := pitchValuesRow.holds Tryd.pinned (OpenSpec.ofChange pitchValuesSpec)

/-- ITS FALSE NEIGHBOUR: 'it returns false'. Refute it at one input. -/
def pitchValuesWrong : ChangeSpec := { name := "pitchValues", fn := fun _ => fun
  | [d1, d2] => { results := [.lit (.bool false)], args := [d1, d2] }
  | _ => none }
def PitchValuesWrongFalsely : Prop := pitchValuesRow.holds Tryd.pinned (OpenSpec.ofChange pitchValuesWrong)

/-- 'declaimlaw05.PitchCurves': WHATEVER THE INPUT: true; the input reads as it did. -/
def pitchCurvesSpec : ChangeSpec := { name := "pitchCurves", fn := fun _ => fun
  | [d1, d2, d3] => { results := [.lit (.bool true)], args := [d1, d2, d3] }
  | _ => none }
def pitchCurvesRow : OpenClaim := { program := "ytijonghofghocaadoor", sum := "d0b416c5ffd25f8e2cbfe91a0c5de92d415aa13747b911c85065886543765b32", func := "declaim/declaimlaw05.PitchCurves", spec := "pitchCurves", unfollowed := true, recurses := true, named := ["declaim/api.Semitones"], apart := false, laid := [("declaim/api.Semitones", laid_declaim_api_Semitones)] }
def PitchCurvesSaid : Prop := pitchCurvesRow.holds Tryd.pinned (OpenSpec.ofChange pitchCurvesSpec)

/-- ITS FALSE NEIGHBOUR: 'it returns false'. Refute it at one input. -/
def pitchCurvesWrong : ChangeSpec := { name := "pitchCurves", fn := fun _ => fun
  | [d1, d2, d3] => { results := [.lit (.bool false)], args := [d1, d2, d3] }
  | _ => none }
def PitchCurvesWrongFalsely : Prop := pitchCurvesRow.holds Tryd.pinned (OpenSpec.ofChange pitchCurvesWrong)

/-- 'declaimlaw05.PitchAdds': WHATEVER THE INPUT: true; the input reads as it did. -/
def pitchAddsSpec : ChangeSpec := { name := "pitchAdds", fn := fun _ => fun
  | [d1, d2, d3, d4] => { results := [.lit (.bool true)], args := [d1, d2, d3, d4] }
  | _ => none }
def pitchAddsRow : OpenClaim := { program := "ytijonghofghocaadoor", sum := "d0b416c5ffd25f8e2cbfe91a0c5de92d415aa13747b911c85065886543765b32", func := "declaim/declaimlaw05.PitchAdds", spec := "pitchAdds", unfollowed := true, recurses := true, named := ["declaim/api.Semitones"], apart := false, laid := [("declaim/api.Semitones", laid_declaim_api_Semitones)] }
def PitchAddsSaid : Prop := pitchAddsRow.holds Tryd.pinned (OpenSpec.ofChange pitchAddsSpec)

/-- ITS FALSE NEIGHBOUR: 'it returns false'. Refute it at one input. -/
def pitchAddsWrong : ChangeSpec := { name := "pitchAdds", fn := fun _ => fun
  | [d1, d2, d3, d4] => { results := [.lit (.bool false)], args := [d1, d2, d3, d4] }
  | _ => none }
def PitchAddsWrongFalsely : Prop := pitchAddsRow.holds Tryd.pinned (OpenSpec.ofChange pitchAddsWrong)

/-- 'declaimlaw05.PitchCosts': WHATEVER THE INPUT: true; the input reads as it did. -/
def pitchCostsSpec : ChangeSpec := { name := "pitchCosts", fn := fun _ => fun
  | [d1, d2] => { results := [.lit (.bool true)], args := [d1, d2] }
  | _ => none }
def pitchCostsRow : OpenClaim := { program := "ytijonghofghocaadoor", sum := "d0b416c5ffd25f8e2cbfe91a0c5de92d415aa13747b911c85065886543765b32", func := "declaim/declaimlaw05.PitchCosts", spec := "pitchCosts", unfollowed := true, recurses := true, named := ["declaim/api.Semitones"], apart := false, laid := [("declaim/api.Semitones", laid_declaim_api_Semitones)] }
def PitchCostsSaid : Prop := pitchCostsRow.holds Tryd.pinned (OpenSpec.ofChange pitchCostsSpec)

/-- ITS FALSE NEIGHBOUR: 'it returns false'. Refute it at one input. -/
def pitchCostsWrong : ChangeSpec := { name := "pitchCosts", fn := fun _ => fun
  | [d1, d2] => { results := [.lit (.bool false)], args := [d1, d2] }
  | _ => none }
def PitchCostsWrongFalsely : Prop := pitchCostsRow.holds Tryd.pinned (OpenSpec.ofChange pitchCostsWrong)

/-- 'declaimlaw05.PitchSettled': WHATEVER THE INPUT: true; the input reads as it did. -/
def pitchSettledSpec : ChangeSpec := { name := "pitchSettled", fn := fun _ => fun
  | [d1, d2] => { results := [.lit (.bool true)], args := [d1, d2] }
  | _ => none }
def pitchSettledRow : OpenClaim := { program := "ytijonghofghocaadoor", sum := "d0b416c5ffd25f8e2cbfe91a0c5de92d415aa13747b911c85065886543765b32", func := "declaim/declaimlaw05.PitchSettled", spec := "pitchSettled", unfollowed := true, recurses := true, named := ["declaim/api.Semitones"], apart := false, laid := [("declaim/api.Semitones", laid_declaim_api_Semitones)] }
def PitchSettledSaid : Prop := pitchSettledRow.holds Tryd.pinned (OpenSpec.ofChange pitchSettledSpec)

/-- ITS FALSE NEIGHBOUR: 'it returns false'. Refute it at one input. -/
def pitchSettledWrong : ChangeSpec := { name := "pitchSettled", fn := fun _ => fun
  | [d1, d2] => { results := [.lit (.bool false)], args := [d1, d2] }
  | _ => none }
def PitchSettledWrongFalsely : Prop := pitchSettledRow.holds Tryd.pinned (OpenSpec.ofChange pitchSettledWrong)

/-- 'declaimlaw05.PitchBest': WHATEVER THE INPUT: true; the input reads as it did. -/
def pitchBestSpec : ChangeSpec := { name := "pitchBest", fn := fun _ => fun
  | [d] => { results := [.lit (.bool true)], args := [d] }
  | _ => none }
def pitchBestRow : OpenClaim := { program := "ytijonghofghocaadoor", sum := "d0b416c5ffd25f8e2cbfe91a0c5de92d415aa13747b911c85065886543765b32", func := "declaim/declaimlaw05.PitchBest", spec := "pitchBest", unfollowed := true, recurses := true, named := ["declaim/api.Semitones"], apart := false, laid := [("declaim/api.Semitones", laid_declaim_api_Semitones)] }
def PitchBestSaid : Prop := pitchBestRow.holds Tryd.pinned (OpenSpec.ofChange pitchBestSpec)

/-- ITS FALSE NEIGHBOUR: 'it returns false'. Refute it at one input. -/
def pitchBestWrong : ChangeSpec := { name := "pitchBest", fn := fun _ => fun
  | [d] => { results := [.lit (.bool false)], args := [d] }
  | _ => none }
def PitchBestWrongFalsely : Prop := pitchBestRow.holds Tryd.pinned (OpenSpec.ofChange pitchBestWrong)

/-- 'declaimlaw05.PitchRaised': WHATEVER THE INPUT: true; the input reads as it did. -/
def pitchRaisedSpec : ChangeSpec := { name := "pitchRaised", fn := fun _ => fun
  | [d1, d2] => { results := [.lit (.bool true)], args := [d1, d2] }
  | _ => none }
def pitchRaisedRow : OpenClaim := { program := "ytijonghofghocaadoor", sum := "d0b416c5ffd25f8e2cbfe91a0c5de92d415aa13747b911c85065886543765b32", func := "declaim/declaimlaw05.PitchRaised", spec := "pitchRaised", unfollowed := true, recurses := true, named := ["declaim/api.Semitones"], apart := false, laid := [("declaim/api.Semitones", laid_declaim_api_Semitones)] }
def PitchRaisedSaid : Prop := pitchRaisedRow.holds Tryd.pinned (OpenSpec.ofChange pitchRaisedSpec)

/-- ITS FALSE NEIGHBOUR: 'it returns false'. Refute it at one input. -/
def pitchRaisedWrong : ChangeSpec := { name := "pitchRaised", fn := fun _ => fun
  | [d1, d2] => { results := [.lit (.bool false)], args := [d1, d2] }
  | _ => none }
def PitchRaisedWrongFalsely : Prop := pitchRaisedRow.holds Tryd.pinned (OpenSpec.ofChange pitchRaisedWrong)

/-- 'declaimlaw05.PitchPhase': WHATEVER THE INPUT: true; the input reads as it did. -/
def pitchPhaseSpec : ChangeSpec := { name := "pitchPhase", fn := fun _ => fun
  | [d1, d2, d3] => { results := [.lit (.bool true)], args := [d1, d2, d3] }
  | _ => none }
def pitchPhaseRow : OpenClaim := { program := "ytijonghofghocaadoor", sum := "d0b416c5ffd25f8e2cbfe91a0c5de92d415aa13747b911c85065886543765b32", func := "declaim/declaimlaw05.PitchPhase", spec := "pitchPhase", unfollowed := true, recurses := true, named := ["declaim/api.Semitones"], apart := false, laid := [("declaim/api.Semitones", laid_declaim_api_Semitones)] }
def PitchPhaseSaid : Prop := pitchPhaseRow.holds Tryd.pinned (OpenSpec.ofChange pitchPhaseSpec)

/-- ITS FALSE NEIGHBOUR: 'it returns false'. Refute it at one input. -/
def pitchPhaseWrong : ChangeSpec := { name := "pitchPhase", fn := fun _ => fun
  | [d1, d2, d3] => { results := [.lit (.bool false)], args := [d1, d2, d3] }
  | _ => none }
def PitchPhaseWrongFalsely : Prop := pitchPhaseRow.holds Tryd.pinned (OpenSpec.ofChange pitchPhaseWrong)

/-- 'declaimlaw05.PitchSings': WHATEVER THE INPUT: true; the input reads as it did. -/
def pitchSingsSpec : ChangeSpec := { name := "pitchSings", fn := fun _ => fun
  | [d] => { results := [.lit (.bool true)], args := [d] }
  | _ => none }
def pitchSingsRow : OpenClaim := { program := "ytijonghofghocaadoor", sum := "d0b416c5ffd25f8e2cbfe91a0c5de92d415aa13747b911c85065886543765b32", func := "declaim/declaimlaw05.PitchSings", spec := "pitchSings", unfollowed := true, recurses := true, named := ["declaim/api.Semitones"], apart := false, laid := [("declaim/api.Semitones", laid_declaim_api_Semitones)] }
def PitchSingsSaid : Prop := pitchSingsRow.holds Tryd.pinned (OpenSpec.ofChange pitchSingsSpec)

/-- ITS FALSE NEIGHBOUR: 'it returns false'. Refute it at one input. -/
def pitchSingsWrong : ChangeSpec := { name := "pitchSings", fn := fun _ => fun
  | [d] => { results := [.lit (.bool false)], args := [d] }
  | _ => none }
def PitchSingsWrongFalsely : Prop := pitchSingsRow.holds Tryd.pinned (OpenSpec.ofChange pitchSingsWrong)

/-- 'declaimlaw05.PitchKeys': WHATEVER THE INPUT: true; the input reads as it did. -/
def pitchKeysSpec : ChangeSpec := { name := "pitchKeys", fn := fun _ => fun
  | [d] => { results := [.lit (.bool true)], args := [d] }
  | _ => none }
def pitchKeysRow : OpenClaim := { program := "ytijonghofghocaadoor", sum := "d0b416c5ffd25f8e2cbfe91a0c5de92d415aa13747b911c85065886543765b32", func := "declaim/declaimlaw05.PitchKeys", spec := "pitchKeys", unfollowed := true, recurses := true, named := ["declaim/api.Semitones"], apart := false, laid := [("declaim/api.Semitones", laid_declaim_api_Semitones)] }
def PitchKeysSaid : Prop := pitchKeysRow.holds Tryd.pinned (OpenSpec.ofChange pitchKeysSpec)

/-- ITS FALSE NEIGHBOUR: 'it returns false'. Refute it at one input. -/
def pitchKeysWrong : ChangeSpec := { name := "pitchKeys", fn := fun _ => fun
  | [d] => { results := [.lit (.bool false)], args := [d] }
  | _ => none }
def PitchKeysWrongFalsely : Prop := pitchKeysRow.holds Tryd.pinned (OpenSpec.ofChange pitchKeysWrong)

/-- 'declaimlaw05.PitchFrequencies': WHATEVER THE INPUT: true; the input reads as it did. -/
def pitchFrequenciesSpec : ChangeSpec := { name := "pitchFrequencies", fn := fun _ => fun
  | [d] => { results := [.lit (.bool true)], args := [d] }
  | _ => none }
def pitchFrequenciesRow : OpenClaim := { program := "ytijonghofghocaadoor", sum := "d0b416c5ffd25f8e2cbfe91a0c5de92d415aa13747b911c85065886543765b32", func := "declaim/declaimlaw05.PitchFrequencies", spec := "pitchFrequencies", unfollowed := true, recurses := true, named := ["declaim/api.Semitones"], apart := false, laid := [("declaim/api.Semitones", laid_declaim_api_Semitones)] }
def PitchFrequenciesSaid : Prop := pitchFrequenciesRow.holds Tryd.pinned (OpenSpec.ofChange pitchFrequenciesSpec)

/-- ITS FALSE NEIGHBOUR: 'it returns false'. Refute it at one input. -/
def pitchFrequenciesWrong : ChangeSpec := { name := "pitchFrequencies", fn := fun _ => fun
  | [d] => { results := [.lit (.bool false)], args := [d] }
  | _ => none }
def PitchFrequenciesWrongFalsely : Prop := pitchFrequenciesRow.holds Tryd.pinned (OpenSpec.ofChange pitchFrequenciesWrong)

/-- 'declaimlaw05.PitchCents': WHATEVER THE INPUT: true; the input reads as it did. -/
def pitchCentsSpec : ChangeSpec := { name := "pitchCents", fn := fun _ => fun
  | [d] => { results := [.lit (.bool true)], args := [d] }
  | _ => none }
def pitchCentsRow : OpenClaim := { program := "ytijonghofghocaadoor", sum := "d0b416c5ffd25f8e2cbfe91a0c5de92d415aa13747b911c85065886543765b32", func := "declaim/declaimlaw05.PitchCents", spec := "pitchCents", unfollowed := true, recurses := true, named := ["declaim/api.Semitones"], apart := false, laid := [("declaim/api.Semitones", laid_declaim_api_Semitones)] }
def PitchCentsSaid : Prop := pitchCentsRow.holds Tryd.pinned (OpenSpec.ofChange pitchCentsSpec)

/-- ITS FALSE NEIGHBOUR: 'it returns false'. Refute it at one input. -/
def pitchCentsWrong : ChangeSpec := { name := "pitchCents", fn := fun _ => fun
  | [d] => { results := [.lit (.bool false)], args := [d] }
  | _ => none }
def PitchCentsWrongFalsely : Prop := pitchCentsRow.holds Tryd.pinned (OpenSpec.ofChange pitchCentsWrong)

/-- 'declaimlaw05.PitchPulses': WHATEVER THE INPUT: true; the input reads as it did. -/
def pitchPulsesSpec : ChangeSpec := { name := "pitchPulses", fn := fun _ => fun
  | [d1, d2] => { results := [.lit (.bool true)], args := [d1, d2] }
  | _ => none }
def pitchPulsesRow : OpenClaim := { program := "ytijonghofghocaadoor", sum := "d0b416c5ffd25f8e2cbfe91a0c5de92d415aa13747b911c85065886543765b32", func := "declaim/declaimlaw05.PitchPulses", spec := "pitchPulses", unfollowed := true, recurses := true, named := ["declaim/api.Semitones"], apart := false, laid := [("declaim/api.Semitones", laid_declaim_api_Semitones)] }
def PitchPulsesSaid : Prop := pitchPulsesRow.holds Tryd.pinned (OpenSpec.ofChange pitchPulsesSpec)

/-- ITS FALSE NEIGHBOUR: 'it returns false'. Refute it at one input. -/
def pitchPulsesWrong : ChangeSpec := { name := "pitchPulses", fn := fun _ => fun
  | [d1, d2] => { results := [.lit (.bool false)], args := [d1, d2] }
  | _ => none }
def PitchPulsesWrongFalsely : Prop := pitchPulsesRow.holds Tryd.pinned (OpenSpec.ofChange pitchPulsesWrong)

/- THE SECOND FORM. 'bulk': how many values and letters a reading holds, each counted each time it is reached (what is shared counts as often as it is met; a slice's spare places count too). A statement '..UptoSaid' is the law's where the arguments, and the package variables that the reading takes, are together of bulk at most 1048576: NARROWER than '..Said'. Prove '..Said' where nothing that the law and all that it calls make is longer than what came in: it says more and counts as full. Else prove '..UptoSaid'. A law counts once. -/
mutual
def uptoBulk {H : Type} : DataW H → Nat
  | .lit (.string bytes) => bytes.length + 1
  | .lit _ => 1
  | .nil => 1
  | .ptr d => uptoBulk d + 1
  | .slice elems spare => uptoBulkAll elems + uptoBulkAll spare + 1
  | .agg parts => uptoBulkAll parts + 1
  | .iface _ d => uptoBulk d + 1
  | .map entries => uptoBulkEntries entries + 1
  | .held _ => 1
def uptoBulkAll {H : Type} : List (DataW H) → Nat
  | [] => 0
  | d :: r => uptoBulk d + uptoBulkAll r
def uptoBulkEntries {H : Type} : List (Lit × DataW H) → Nat
  | [] => 0
  | x :: r => uptoBulkEntry x + uptoBulkEntries r
def uptoBulkEntry {H : Type} : Lit × DataW H → Nat
  | (.string bytes, d) => bytes.length + uptoBulk d + 1
  | (_, d) => uptoBulk d + 1
 end
def uptoSmall : (H : Type) → List (DataW H) → Bool := fun _ ds => decide (uptoBulkAll ds ≤ 1048576)
def OpenSpec.upto (s : _root_.Go.ChangeSpec) : _root_.Go.OpenSpec := { _root_.Go.OpenSpec.ofChange s with cond := some uptoSmall }

/-- 'declaimlaw05.PitchValues', WHERE WHAT IT READS IS OF BULK AT MOST 1048576: true; the input reads as it did. -/
def pitchValuesUptoRow : OpenClaim := { program := "ytijonghofghocaadoor", sum := "d0b416c5ffd25f8e2cbfe91a0c5de92d415aa13747b911c85065886543765b32", func := "declaim/declaimlaw05.PitchValues", spec := "pitchValues", unfollowed := true, recurses := true, named := ["declaim/api.Semitones"], apart := false, laid := [("declaim/api.Semitones", laid_declaim_api_Semitones)], narrowed := true }
def PitchValuesUptoSaid : Prop := pitchValuesUptoRow.holds Tryd.pinned (OpenSpec.upto pitchValuesSpec)

/-- 'declaimlaw05.PitchCurves', WHERE WHAT IT READS IS OF BULK AT MOST 1048576: true; the input reads as it did. -/
def pitchCurvesUptoRow : OpenClaim := { program := "ytijonghofghocaadoor", sum := "d0b416c5ffd25f8e2cbfe91a0c5de92d415aa13747b911c85065886543765b32", func := "declaim/declaimlaw05.PitchCurves", spec := "pitchCurves", unfollowed := true, recurses := true, named := ["declaim/api.Semitones"], apart := false, laid := [("declaim/api.Semitones", laid_declaim_api_Semitones)], narrowed := true }
def PitchCurvesUptoSaid : Prop := pitchCurvesUptoRow.holds Tryd.pinned (OpenSpec.upto pitchCurvesSpec)

/-- 'declaimlaw05.PitchAdds', WHERE WHAT IT READS IS OF BULK AT MOST 1048576: true; the input reads as it did. -/
def pitchAddsUptoRow : OpenClaim := { program := "ytijonghofghocaadoor", sum := "d0b416c5ffd25f8e2cbfe91a0c5de92d415aa13747b911c85065886543765b32", func := "declaim/declaimlaw05.PitchAdds", spec := "pitchAdds", unfollowed := true, recurses := true, named := ["declaim/api.Semitones"], apart := false, laid := [("declaim/api.Semitones", laid_declaim_api_Semitones)], narrowed := true }
def PitchAddsUptoSaid : Prop := pitchAddsUptoRow.holds Tryd.pinned (OpenSpec.upto pitchAddsSpec)

/-- 'declaimlaw05.PitchCosts', WHERE WHAT IT READS IS OF BULK AT MOST 1048576: true; the input reads as it did. -/
def pitchCostsUptoRow : OpenClaim := { program := "ytijonghofghocaadoor", sum := "d0b416c5ffd25f8e2cbfe91a0c5de92d415aa13747b911c85065886543765b32", func := "declaim/declaimlaw05.PitchCosts", spec := "pitchCosts", unfollowed := true, recurses := true, named := ["declaim/api.Semitones"], apart := false, laid := [("declaim/api.Semitones", laid_declaim_api_Semitones)], narrowed := true }
def PitchCostsUptoSaid : Prop := pitchCostsUptoRow.holds Tryd.pinned (OpenSpec.upto pitchCostsSpec)

/-- 'declaimlaw05.PitchSettled', WHERE WHAT IT READS IS OF BULK AT MOST 1048576: true; the input reads as it did. -/
def pitchSettledUptoRow : OpenClaim := { program := "ytijonghofghocaadoor", sum := "d0b416c5ffd25f8e2cbfe91a0c5de92d415aa13747b911c85065886543765b32", func := "declaim/declaimlaw05.PitchSettled", spec := "pitchSettled", unfollowed := true, recurses := true, named := ["declaim/api.Semitones"], apart := false, laid := [("declaim/api.Semitones", laid_declaim_api_Semitones)], narrowed := true }
def PitchSettledUptoSaid : Prop := pitchSettledUptoRow.holds Tryd.pinned (OpenSpec.upto pitchSettledSpec)

/-- 'declaimlaw05.PitchBest', WHERE WHAT IT READS IS OF BULK AT MOST 1048576: true; the input reads as it did. -/
def pitchBestUptoRow : OpenClaim := { program := "ytijonghofghocaadoor", sum := "d0b416c5ffd25f8e2cbfe91a0c5de92d415aa13747b911c85065886543765b32", func := "declaim/declaimlaw05.PitchBest", spec := "pitchBest", unfollowed := true, recurses := true, named := ["declaim/api.Semitones"], apart := false, laid := [("declaim/api.Semitones", laid_declaim_api_Semitones)], narrowed := true }
def PitchBestUptoSaid : Prop := pitchBestUptoRow.holds Tryd.pinned (OpenSpec.upto pitchBestSpec)

/-- 'declaimlaw05.PitchRaised', WHERE WHAT IT READS IS OF BULK AT MOST 1048576: true; the input reads as it did. -/
def pitchRaisedUptoRow : OpenClaim := { program := "ytijonghofghocaadoor", sum := "d0b416c5ffd25f8e2cbfe91a0c5de92d415aa13747b911c85065886543765b32", func := "declaim/declaimlaw05.PitchRaised", spec := "pitchRaised", unfollowed := true, recurses := true, named := ["declaim/api.Semitones"], apart := false, laid := [("declaim/api.Semitones", laid_declaim_api_Semitones)], narrowed := true }
def PitchRaisedUptoSaid : Prop := pitchRaisedUptoRow.holds Tryd.pinned (OpenSpec.upto pitchRaisedSpec)

/-- 'declaimlaw05.PitchPhase', WHERE WHAT IT READS IS OF BULK AT MOST 1048576: true; the input reads as it did. -/
def pitchPhaseUptoRow : OpenClaim := { program := "ytijonghofghocaadoor", sum := "d0b416c5ffd25f8e2cbfe91a0c5de92d415aa13747b911c85065886543765b32", func := "declaim/declaimlaw05.PitchPhase", spec := "pitchPhase", unfollowed := true, recurses := true, named := ["declaim/api.Semitones"], apart := false, laid := [("declaim/api.Semitones", laid_declaim_api_Semitones)], narrowed := true }
def PitchPhaseUptoSaid : Prop := pitchPhaseUptoRow.holds Tryd.pinned (OpenSpec.upto pitchPhaseSpec)

/-- 'declaimlaw05.PitchSings', WHERE WHAT IT READS IS OF BULK AT MOST 1048576: true; the input reads as it did. -/
def pitchSingsUptoRow : OpenClaim := { program := "ytijonghofghocaadoor", sum := "d0b416c5ffd25f8e2cbfe91a0c5de92d415aa13747b911c85065886543765b32", func := "declaim/declaimlaw05.PitchSings", spec := "pitchSings", unfollowed := true, recurses := true, named := ["declaim/api.Semitones"], apart := false, laid := [("declaim/api.Semitones", laid_declaim_api_Semitones)], narrowed := true }
def PitchSingsUptoSaid : Prop := pitchSingsUptoRow.holds Tryd.pinned (OpenSpec.upto pitchSingsSpec)

/-- 'declaimlaw05.PitchKeys', WHERE WHAT IT READS IS OF BULK AT MOST 1048576: true; the input reads as it did. -/
def pitchKeysUptoRow : OpenClaim := { program := "ytijonghofghocaadoor", sum := "d0b416c5ffd25f8e2cbfe91a0c5de92d415aa13747b911c85065886543765b32", func := "declaim/declaimlaw05.PitchKeys", spec := "pitchKeys", unfollowed := true, recurses := true, named := ["declaim/api.Semitones"], apart := false, laid := [("declaim/api.Semitones", laid_declaim_api_Semitones)], narrowed := true }
def PitchKeysUptoSaid : Prop := pitchKeysUptoRow.holds Tryd.pinned (OpenSpec.upto pitchKeysSpec)

/-- 'declaimlaw05.PitchFrequencies', WHERE WHAT IT READS IS OF BULK AT MOST 1048576: true; the input reads as it did. -/
def pitchFrequenciesUptoRow : OpenClaim := { program := "ytijonghofghocaadoor", sum := "d0b416c5ffd25f8e2cbfe91a0c5de92d415aa13747b911c85065886543765b32", func := "declaim/declaimlaw05.PitchFrequencies", spec := "pitchFrequencies", unfollowed := true, recurses := true, named := ["declaim/api.Semitones"], apart := false, laid := [("declaim/api.Semitones", laid_declaim_api_Semitones)], narrowed := true }
def PitchFrequenciesUptoSaid : Prop := pitchFrequenciesUptoRow.holds Tryd.pinned (OpenSpec.upto pitchFrequenciesSpec)

/-- 'declaimlaw05.PitchCents', WHERE WHAT IT READS IS OF BULK AT MOST 1048576: true; the input reads as it did. -/
def pitchCentsUptoRow : OpenClaim := { program := "ytijonghofghocaadoor", sum := "d0b416c5ffd25f8e2cbfe91a0c5de92d415aa13747b911c85065886543765b32", func := "declaim/declaimlaw05.PitchCents", spec := "pitchCents", unfollowed := true, recurses := true, named := ["declaim/api.Semitones"], apart := false, laid := [("declaim/api.Semitones", laid_declaim_api_Semitones)], narrowed := true }
def PitchCentsUptoSaid : Prop := pitchCentsUptoRow.holds Tryd.pinned (OpenSpec.upto pitchCentsSpec)

/-- 'declaimlaw05.PitchPulses', WHERE WHAT IT READS IS OF BULK AT MOST 1048576: true; the input reads as it did. -/
def pitchPulsesUptoRow : OpenClaim := { program := "ytijonghofghocaadoor", sum := "d0b416c5ffd25f8e2cbfe91a0c5de92d415aa13747b911c85065886543765b32", func := "declaim/declaimlaw05.PitchPulses", spec := "pitchPulses", unfollowed := true, recurses := true, named := ["declaim/api.Semitones"], apart := false, laid := [("declaim/api.Semitones", laid_declaim_api_Semitones)], narrowed := true }
def PitchPulsesUptoSaid : Prop := pitchPulsesUptoRow.holds Tryd.pinned (OpenSpec.upto pitchPulsesSpec)

end Rows
end Go.Proofs.YtijonghofghocaaDoor
