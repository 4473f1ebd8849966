/-
  NARROWER THAN 'FOR EVERY INPUT', by the rows' own cells (each row's printed sentence says how): HammingMatchesReference: laid · HammingRoundTrip: laid · HammingCorrects: laid · HammingDetects: laid · HammingDistances: laid · HammingWords: laid.
  DERIVED. THE GIVEN ROWS OF THIS SEAT. 6 by the template 'for every input the law returns true; each argument reads behind the call as it read before'; 0 by the template 'total and deterministic' (their statements: YtpigonlbdleaeaaDoorTotals.lean).
  GIVEN WITH THE SEED: the statements are not yours to turn. If you find one false, say at which input.
  Laid BY PROGRAM, IN A SANDBOX (cutbox-rows.mjs): the forced cells as the released guide's own fill.sh prints them over the translation 0dc5001d8781d51a… (all of the seat's roots in one cut). By AI agents, Wed Nov 11 2026. No macro, syntax, notation, axiom, sorry.
-/
import Derived.Test.YtpigonlbdleaeaaDoorChecked
import GoSem.Claim
import GoSem.ClaimJoined
import GoSem.ClaimMapViews
import Derived.JoinedTies
import Derived.KernelRfl
namespace Go.Proofs.YtpigonlbdleaeaaDoor
/- THE CELL 'sum', in the pinned program and in every row, IS THE sha256 OF THE DUMP (.gsa) THAT YtpigonlbdleaeaaDoorProg.lean LOADS. Nothing in Lean hashes anything: it is a label: what it is worth is what the hold of that sum in a sandbox is worth. -/
noncomputable def Tryd.pinned : Pinned := { name := "ytpigonlbdleaeaadoor", sum := "0dc5001d8781d51a727591825b883ee01c0b2ee85ed3f28e4aa4fe7902afd9c2", checked := Tryd.checked }
namespace Rows
def none {H : Type} : Left H := { results := [], args := [] }

/- WHAT THE LISTED PACKAGE-LEVEL VARIABLES READ AS WHEN THE CALL BEGINS. Each datum BY PROGRAM (the guide's laid-datum.mjs) off the statement by which the dump's own 'gosem.cut.vars' lays the variable. In a bare row this is a premise. The card (YtpigonlbdleaeaaDoorCards.lean) ties it to the program's text. -/
def laid_math_bits_deBruijn64tab {H : Type} : DataW H := .agg [.lit (.int .u8 0), .lit (.int .u8 1), .lit (.int .u8 56), .lit (.int .u8 2), .lit (.int .u8 57), .lit (.int .u8 49), .lit (.int .u8 28), .lit (.int .u8 3), .lit (.int .u8 61), .lit (.int .u8 58), .lit (.int .u8 42), .lit (.int .u8 50), .lit (.int .u8 38), .lit (.int .u8 29), .lit (.int .u8 17), .lit (.int .u8 4), .lit (.int .u8 62), .lit (.int .u8 47), .lit (.int .u8 59), .lit (.int .u8 36), .lit (.int .u8 45), .lit (.int .u8 43), .lit (.int .u8 51), .lit (.int .u8 22), .lit (.int .u8 53), .lit (.int .u8 39), .lit (.int .u8 33), .lit (.int .u8 30), .lit (.int .u8 24), .lit (.int .u8 18), .lit (.int .u8 12), .lit (.int .u8 5), .lit (.int .u8 63), .lit (.int .u8 55), .lit (.int .u8 48), .lit (.int .u8 27), .lit (.int .u8 60), .lit (.int .u8 41), .lit (.int .u8 37), .lit (.int .u8 16), .lit (.int .u8 46), .lit (.int .u8 35), .lit (.int .u8 44), .lit (.int .u8 21), .lit (.int .u8 52), .lit (.int .u8 32), .lit (.int .u8 23), .lit (.int .u8 11), .lit (.int .u8 54), .lit (.int .u8 26), .lit (.int .u8 40), .lit (.int .u8 15), .lit (.int .u8 34), .lit (.int .u8 20), .lit (.int .u8 31), .lit (.int .u8 10), .lit (.int .u8 25), .lit (.int .u8 14), .lit (.int .u8 19), .lit (.int .u8 9), .lit (.int .u8 13), .lit (.int .u8 8), .lit (.int .u8 7), .lit (.int .u8 6)]

/-- 'wireloomlaw03.HammingMatchesReference': WHATEVER THE INPUT: true; the input reads as it did. -/
def hammingMatchesReferenceSpec : ChangeSpec := { name := "hammingMatchesReference", fn := fun _ => fun
  | [d1, d2, d3] => { results := [.lit (.bool true)], args := [d1, d2, d3] }
  | _ => none }
def hammingMatchesReferenceRow : OpenClaim := { program := "ytpigonlbdleaeaadoor", sum := "0dc5001d8781d51a727591825b883ee01c0b2ee85ed3f28e4aa4fe7902afd9c2", func := "wireloom/wireloomlaw03.HammingMatchesReference", spec := "hammingMatchesReference", unfollowed := true, recurses := true, named := ["math/bits.deBruijn64tab"], apart := false, laid := [("math/bits.deBruijn64tab", laid_math_bits_deBruijn64tab)] }
def HammingMatchesReferenceSaid : Prop := hammingMatchesReferenceRow.holds Tryd.pinned (OpenSpec.ofChange hammingMatchesReferenceSpec)

/-- ITS FALSE NEIGHBOUR: 'it returns false'. Refute it at one input. -/
def hammingMatchesReferenceWrong : ChangeSpec := { name := "hammingMatchesReference", fn := fun _ => fun
  | [d1, d2, d3] => { results := [.lit (.bool false)], args := [d1, d2, d3] }
  | _ => none }
def HammingMatchesReferenceWrongFalsely : Prop := hammingMatchesReferenceRow.holds Tryd.pinned (OpenSpec.ofChange hammingMatchesReferenceWrong)

/-- 'wireloomlaw03.HammingRoundTrip': WHATEVER THE INPUT: true; the input reads as it did. -/
def hammingRoundTripSpec : ChangeSpec := { name := "hammingRoundTrip", fn := fun _ => fun
  | [d] => { results := [.lit (.bool true)], args := [d] }
  | _ => none }
def hammingRoundTripRow : OpenClaim := { program := "ytpigonlbdleaeaadoor", sum := "0dc5001d8781d51a727591825b883ee01c0b2ee85ed3f28e4aa4fe7902afd9c2", func := "wireloom/wireloomlaw03.HammingRoundTrip", spec := "hammingRoundTrip", unfollowed := true, recurses := true, named := ["math/bits.deBruijn64tab"], apart := false, laid := [("math/bits.deBruijn64tab", laid_math_bits_deBruijn64tab)] }
def HammingRoundTripSaid : Prop := hammingRoundTripRow.holds Tryd.pinned (OpenSpec.ofChange hammingRoundTripSpec)

/-- ITS FALSE NEIGHBOUR: 'it returns false'. Refute it at one input. -/
def hammingRoundTripWrong : ChangeSpec := { name := "hammingRoundTrip", fn := fun _ => fun
  | [d] => { results := [.lit (.bool false)], args := [d] }
  | _ => none }
def HammingRoundTripWrongFalsely : Prop := hammingRoundTripRow.holds Tryd.pinned (OpenSpec.ofChange hammingRoundTripWrong)

/-- 'wireloomlaw03.HammingCorrects': WHATEVER THE INPUT: true; the input reads as it did. -/
def hammingCorrectsSpec : ChangeSpec := { name := "hammingCorrects", fn := fun _ => fun
  | [d1, d2] => { results := [.lit (.bool true)], args := [d1, d2] }
  | _ => none }
def hammingCorrectsRow : OpenClaim := { program := "ytpigonlbdleaeaadoor", sum := "0dc5001d8781d51a727591825b883ee01c0b2ee85ed3f28e4aa4fe7902afd9c2", func := "wireloom/wireloomlaw03.HammingCorrects", spec := "hammingCorrects", unfollowed := true, recurses := true, named := ["math/bits.deBruijn64tab"], apart := false, laid := [("math/bits.deBruijn64tab", laid_math_bits_deBruijn64tab)] }
def HammingCorrectsSaid : Prop := hammingCorrectsRow.holds Tryd.pinned (OpenSpec.ofChange hammingCorrectsSpec)

/-- ITS FALSE NEIGHBOUR: 'it returns false'. Refute it at one input. -/
def hammingCorrectsWrong : ChangeSpec := { name := "hammingCorrects", fn := fun _ => fun
  | [d1, d2] => { results := [.lit (.bool false)], args := [d1, d2] }
  | _ => none }
def HammingCorrectsWrongFalsely : Prop := hammingCorrectsRow.holds Tryd.pinned (OpenSpec.ofChange hammingCorrectsWrong)

/-- 'wireloomlaw03.HammingDetects': WHATEVER THE INPUT: true; the input reads as it did. -/
def hammingDetectsSpec : ChangeSpec := { name := "hammingDetects", fn := fun _ => fun
  | [d1, d2, d3] => { results := [.lit (.bool true)], args := [d1, d2, d3] }
  | _ => none }
def hammingDetectsRow : OpenClaim := { program := "ytpigonlbdleaeaadoor", sum := "0dc5001d8781d51a727591825b883ee01c0b2ee85ed3f28e4aa4fe7902afd9c2", func := "wireloom/wireloomlaw03.HammingDetects", spec := "hammingDetects", unfollowed := true, recurses := true, named := ["math/bits.deBruijn64tab"], apart := false, laid := [("math/bits.deBruijn64tab", laid_math_bits_deBruijn64tab)] }
def HammingDetectsSaid : Prop := hammingDetectsRow.holds Tryd.pinned (OpenSpec.ofChange hammingDetectsSpec)

/-- ITS FALSE NEIGHBOUR: 'it returns false'. Refute it at one input. -/
def hammingDetectsWrong : ChangeSpec := { name := "hammingDetects", fn := fun _ => fun
  | [d1, d2, d3] => { results := [.lit (.bool false)], args := [d1, d2, d3] }
  | _ => none }
def HammingDetectsWrongFalsely : Prop := hammingDetectsRow.holds Tryd.pinned (OpenSpec.ofChange hammingDetectsWrong)

/-- 'wireloomlaw03.HammingDistances': WHATEVER THE INPUT: true; the input reads as it did. -/
def hammingDistancesSpec : ChangeSpec := { name := "hammingDistances", fn := fun _ => fun
  | [d1, d2] => { results := [.lit (.bool true)], args := [d1, d2] }
  | _ => none }
def hammingDistancesRow : OpenClaim := { program := "ytpigonlbdleaeaadoor", sum := "0dc5001d8781d51a727591825b883ee01c0b2ee85ed3f28e4aa4fe7902afd9c2", func := "wireloom/wireloomlaw03.HammingDistances", spec := "hammingDistances", unfollowed := true, recurses := true, named := ["math/bits.deBruijn64tab"], apart := false, laid := [("math/bits.deBruijn64tab", laid_math_bits_deBruijn64tab)] }
def HammingDistancesSaid : Prop := hammingDistancesRow.holds Tryd.pinned (OpenSpec.ofChange hammingDistancesSpec)

/-- ITS FALSE NEIGHBOUR: 'it returns false'. Refute it at one input. -/
def hammingDistancesWrong : ChangeSpec := { name := "hammingDistances", fn := fun _ => fun
  | [d1, d2] => { results := [.lit (.bool false)], args := [d1, d2] }
  | _ => none }
def HammingDistancesWrongFalsely : Prop := hammingDistancesRow.holds Tryd.pinned (OpenSpec.ofChange hammingDistancesWrong)

/-- 'wireloomlaw03.HammingWords': WHATEVER THE INPUT: true; the input reads as it did. -/
def hammingWordsSpec : ChangeSpec := { name := "hammingWords", fn := fun _ => fun
  | [d] => { results := [.lit (.bool true)], args := [d] }
  | _ => none }
def hammingWordsRow : OpenClaim := { program := "ytpigonlbdleaeaadoor", sum := "0dc5001d8781d51a727591825b883ee01c0b2ee85ed3f28e4aa4fe7902afd9c2", func := "wireloom/wireloomlaw03.HammingWords", spec := "hammingWords", unfollowed := true, recurses := true, named := ["math/bits.deBruijn64tab"], apart := false, laid := [("math/bits.deBruijn64tab", laid_math_bits_deBruijn64tab)] }
def HammingWordsSaid : Prop := hammingWordsRow.holds Tryd.pinned (OpenSpec.ofChange hammingWordsSpec)

/-- ITS FALSE NEIGHBOUR: 'it returns false'. Refute it at one input. -/
def hammingWordsWrong : ChangeSpec := { name := "hammingWords", fn := fun _ => fun
  | [d] => { results := [.lit (.bool false)], args := [d] }
  | _ => none }
def HammingWordsWrongFalsely : Prop := hammingWordsRow.holds Tryd.pinned (OpenSpec.ofChange hammingWordsWrong)

/- THE SECOND FORM. 'bulk': how many values and letters a reading holds, each counted each time it is reached (what is shared counts as often as it is met; a slice's spare places count too). A statement '..UptoSaid' is the law's where the arguments, and the package variables that the reading takes, are together of bulk at most 1048576: NARROWER than '..Said'. Prove '..Said' where nothing that the law and all that it calls make is longer than what came in: it says more and counts as full. Else prove '..UptoSaid'. A law counts once. -/
mutual
def uptoBulk {H : Type} : DataW H → Nat
  | .lit (.string bytes) => bytes.length + 1
  | .lit _ => 1
  | .nil => 1
  | .ptr d => uptoBulk d + 1
  | .slice elems spare => uptoBulkAll elems + uptoBulkAll spare + 1
  | .agg parts => uptoBulkAll parts + 1
  | .iface _ d => uptoBulk d + 1
  | .map entries => uptoBulkEntries entries + 1
  | .held _ => 1
def uptoBulkAll {H : Type} : List (DataW H) → Nat
  | [] => 0
  | d :: r => uptoBulk d + uptoBulkAll r
def uptoBulkEntries {H : Type} : List (Lit × DataW H) → Nat
  | [] => 0
  | x :: r => uptoBulkEntry x + uptoBulkEntries r
def uptoBulkEntry {H : Type} : Lit × DataW H → Nat
  | (.string bytes, d) => bytes.length + uptoBulk d + 1
  | (_, d) => uptoBulk d + 1
 end
def uptoSmall : (H : Type) → List (DataW H) → Bool := fun _ ds => decide (uptoBulkAll ds ≤ 1048576)
def OpenSpec.upto (s : _root_.Go.ChangeSpec) : _root_.Go.OpenSpec := { _root_.Go.OpenSpec.ofChange s with cond := some uptoSmall }

/-- 'wireloomlaw03.HammingMatchesReference', WHERE WHAT IT READS IS OF BULK AT MOST 1048576: true; the input reads as it did. -/
def hammingMatchesReferenceUptoRow : OpenClaim := { program := "ytpigonlbdleaeaadoor", sum := "0dc5001d8781d51a727591825b883ee01c0b2ee85ed3f28e4aa4fe7902afd9c2", func := "wireloom/wireloomlaw03.HammingMatchesReference", spec := "hammingMatchesReference", unfollowed := true, recurses := true, named := ["math/bits.deBruijn64tab"], apart := false, laid := [("math/bits.deBruijn64tab", laid_math_bits_deBruijn64tab)], narrowed := true }
def HammingMatchesReferenceUptoSaid : Prop := hammingMatchesReferenceUptoRow.holds Tryd.pinned (OpenSpec.upto hammingMatchesReferenceSpec)

/-- 'wireloomlaw03.HammingRoundTrip', WHERE WHAT IT READS IS OF BULK AT MOST 1048576: true; the input reads as it did. -/
def hammingRoundTripUptoRow : OpenClaim := { program := "ytpigonlbdleaeaadoor", sum := "0dc5001d8781d51a727591825b883ee01c0b2ee85ed3f28e4aa4fe7902afd9c2", func := "wireloom/wireloomlaw03.HammingRoundTrip", spec := "hammingRoundTrip", unfollowed := true, recurses := true, named := ["math/bits.deBruijn64tab"], apart := false, laid := [("math/bits.deBruijn64tab", laid_math_bits_deBruijn64tab)], narrowed := true }
def HammingRoundTripUptoSaid : Prop := hammingRoundTripUptoRow.holds Tryd.pinned (OpenSpec.upto hammingRoundTripSpec)

/-- 'wireloomlaw03.HammingCorrects', WHERE WHAT IT READS IS OF BULK AT MOST 1048576: true; the input reads as it did. -/
def hammingCorrectsUptoRow : OpenClaim := { program := "ytpigonlbdleaeaadoor", sum := "0dc5001d8781d51a727591825b883ee01c0b2ee85ed3f28e4aa4fe7902afd9c2", func := "wireloom/wireloomlaw03.HammingCorrects", spec := "hammingCorrects", unfollowed := true, recurses := true, named := ["math/bits.deBruijn64tab"], apart := false, laid := [("math/bits.deBruijn64tab", laid_math_bits_deBruijn64tab)], narrowed := true }
def HammingCorrectsUptoSaid : Prop := hammingCorrectsUptoRow.holds Tryd.pinned (OpenSpec.upto hammingCorrectsSpec)

/-- 'wireloomlaw03.HammingDetects', WHERE WHAT IT READS IS OF BULK AT MOST 1048576: true; the input reads as it did. -/
def hammingDetectsUptoRow : OpenClaim := { program := "ytpigonlbdleaeaadoor", sum := "0dc5001d8781d51a727591825b883ee01c0b2ee85ed3f28e4aa4fe7902afd9c2", func := "wireloom/wireloomlaw03.HammingDetects", spec := "hammingDetects", unfollowed := true, recurses := true, named := ["math/bits.deBruijn64tab"], apart := false, laid := [("math/bits.deBruijn64tab", laid_math_bits_deBruijn64tab)], narrowed := true }
def HammingDetectsUptoSaid : Prop := hammingDetectsUptoRow.holds Tryd.pinned (OpenSpec.upto hammingDetectsSpec)

/-- 'wireloomlaw03.HammingDistances', WHERE WHAT IT READS IS OF BULK AT MOST 1048576: true; the input reads as it did. -/
def hammingDistancesUptoRow : OpenClaim := { program := "ytpigonlbdleaeaadoor", sum := "0dc5001d8781d51a727591825b883ee01c0b2ee85ed3f28e4aa4fe7902afd9c2", func := "wireloom/wireloomlaw03.HammingDistances", spec := "hammingDistances", unfollowed := true, recurses := true, named := ["math/bits.deBruijn64tab"], apart := false, laid := [("math/bits.deBruijn64tab", laid_math_bits_deBruijn64tab)], narrowed := true }
def HammingDistancesUptoSaid : Prop := hammingDistancesUptoRow.holds Tryd.pinned (OpenSpec.upto hammingDistancesSpec)

/-- 'wireloomlaw03.HammingWords', WHERE WHAT IT READS IS OF BULK AT MOST 1048576: true; the input reads as it did. -/
def hammingWordsUptoRow : OpenClaim := { program := "ytpigonlbdleaeaadoor", sum := "0dc5001d8781d51a727591825b883ee01c0b2ee85ed3f28e4aa4fe7902afd9c2", func := "wireloom/wireloomlaw03.HammingWords", spec := "hammingWords", unfollowed := true, recurses := true, named := ["math/bits.deBruijn64tab"], apart := false, laid := [("math/bits.deBruijn64tab", laid_math_bits_deBruijn64tab)], narrowed := true }
def HammingWordsUptoSaid : Prop := hammingWordsUptoRow.holds Tryd.pinned (OpenSpec.upto hammingWordsSpec)

end Rows
end Go.Proofs.YtpigonlbdleaeaaDoor
