/-
  NARROWER THAN 'FOR EVERY INPUT', by the rows' own cells (each row's printed sentence says how): TokenMatches: laid · TokenProgress: laid · TokenLongest: laid · TokenConcatenates: laid · TokenTakesMatch: laid · TokenFormatMatches: laid · TokenRoundTrip: laid · TokenSeparators: laid · TokenExamples: laid.
  DERIVED. THE GIVEN ROWS OF THIS SEAT. 9 by the template 'for every input the law returns true; each argument reads behind the call as it read before'; 0 by the template 'total and deterministic' (their statements: YtioldkniiilhnaaGreatDoorTotals.lean).
  GIVEN WITH THE SEED: the statements are not yours to turn. If you find one false, say at which input.
  Laid BY PROGRAM, IN A SANDBOX (cutbox-rows.mjs): the forced cells as the released guide's own fill.sh prints them over the translation 937e8089fbbaa31e… (all of the seat's roots in one cut). By AI agents, Wed Nov 11 2026. No macro, syntax, notation, axiom, sorry.
-/
import Derived.Test.YtioldkniiilhnaaGreatDoorChecked
import GoSem.Claim
import GoSem.ClaimJoined
import GoSem.ClaimMapViews
import Derived.JoinedTies
import Derived.KernelRfl
namespace Go.Proofs.YtioldkniiilhnaaGreatDoor
/- THE CELL 'sum', in the pinned program and in every row, IS THE sha256 OF THE DUMP (.gsa) THAT YtioldkniiilhnaaGreatDoorProg.lean LOADS. Nothing in Lean hashes anything: it is a label: what it is worth is what the hold of that sum in a sandbox is worth. -/
noncomputable def Tryz.pinned : Pinned := { name := "ytioldkniiilhnaagreatdoor", sum := "937e8089fbbaa31eb12d1ab386ae2b45fd078a3d4a06f37ddf28cefa83bdd936", checked := Tryz.checked }
namespace Rows
def none {H : Type} : Left H := { results := [], args := [] }

/- WHAT THE LISTED PACKAGE-LEVEL VARIABLES READ AS WHEN THE CALL BEGINS. Each datum BY PROGRAM (the guide's laid-datum.mjs) off the statement by which the dump's own 'gosem.cut.vars' lays the variable. In a bare row this is a premise. The card (YtioldkniiilhnaaGreatDoorCards.lean) ties it to the program's text. -/
def laid_math_bits_deBruijn32tab {H : Type} : DataW H := .agg [.lit (.int .u8 0), .lit (.int .u8 1), .lit (.int .u8 28), .lit (.int .u8 2), .lit (.int .u8 29), .lit (.int .u8 14), .lit (.int .u8 24), .lit (.int .u8 3), .lit (.int .u8 30), .lit (.int .u8 22), .lit (.int .u8 20), .lit (.int .u8 15), .lit (.int .u8 25), .lit (.int .u8 17), .lit (.int .u8 4), .lit (.int .u8 8), .lit (.int .u8 31), .lit (.int .u8 27), .lit (.int .u8 13), .lit (.int .u8 23), .lit (.int .u8 21), .lit (.int .u8 19), .lit (.int .u8 16), .lit (.int .u8 7), .lit (.int .u8 26), .lit (.int .u8 12), .lit (.int .u8 18), .lit (.int .u8 6), .lit (.int .u8 11), .lit (.int .u8 5), .lit (.int .u8 10), .lit (.int .u8 9)]
def laid_math_bits_deBruijn64tab {H : Type} : DataW H := .agg [.lit (.int .u8 0), .lit (.int .u8 1), .lit (.int .u8 56), .lit (.int .u8 2), .lit (.int .u8 57), .lit (.int .u8 49), .lit (.int .u8 28), .lit (.int .u8 3), .lit (.int .u8 61), .lit (.int .u8 58), .lit (.int .u8 42), .lit (.int .u8 50), .lit (.int .u8 38), .lit (.int .u8 29), .lit (.int .u8 17), .lit (.int .u8 4), .lit (.int .u8 62), .lit (.int .u8 47), .lit (.int .u8 59), .lit (.int .u8 36), .lit (.int .u8 45), .lit (.int .u8 43), .lit (.int .u8 51), .lit (.int .u8 22), .lit (.int .u8 53), .lit (.int .u8 39), .lit (.int .u8 33), .lit (.int .u8 30), .lit (.int .u8 24), .lit (.int .u8 18), .lit (.int .u8 12), .lit (.int .u8 5), .lit (.int .u8 63), .lit (.int .u8 55), .lit (.int .u8 48), .lit (.int .u8 27), .lit (.int .u8 60), .lit (.int .u8 41), .lit (.int .u8 37), .lit (.int .u8 16), .lit (.int .u8 46), .lit (.int .u8 35), .lit (.int .u8 44), .lit (.int .u8 21), .lit (.int .u8 52), .lit (.int .u8 32), .lit (.int .u8 23), .lit (.int .u8 11), .lit (.int .u8 54), .lit (.int .u8 26), .lit (.int .u8 40), .lit (.int .u8 15), .lit (.int .u8 34), .lit (.int .u8 20), .lit (.int .u8 31), .lit (.int .u8 10), .lit (.int .u8 25), .lit (.int .u8 14), .lit (.int .u8 19), .lit (.int .u8 9), .lit (.int .u8 13), .lit (.int .u8 8), .lit (.int .u8 7), .lit (.int .u8 6)]
def laid_internal_strconv_uint64pow10 {H : Type} : DataW H := .agg [.lit (.int .u64 1), .lit (.int .u64 10), .lit (.int .u64 100), .lit (.int .u64 1000), .lit (.int .u64 10000), .lit (.int .u64 100000), .lit (.int .u64 1000000), .lit (.int .u64 10000000), .lit (.int .u64 100000000), .lit (.int .u64 1000000000), .lit (.int .u64 10000000000), .lit (.int .u64 100000000000), .lit (.int .u64 1000000000000), .lit (.int .u64 10000000000000), .lit (.int .u64 100000000000000), .lit (.int .u64 1000000000000000), .lit (.int .u64 10000000000000000), .lit (.int .u64 100000000000000000), .lit (.int .u64 1000000000000000000), .lit (.int .u64 10000000000000000000)]

/-- 'netlablaw07.TokenMatches': WHATEVER THE INPUT: true; the input reads as it did. -/
def tokenMatchesSpec : ChangeSpec := { name := "tokenMatches", fn := fun _ => fun
  | [d1, d2] => { results := [.lit (.bool true)], args := [d1, d2] }
  | _ => none }
def tokenMatchesRow : OpenClaim := { program := "ytioldkniiilhnaagreatdoor", sum := "937e8089fbbaa31eb12d1ab386ae2b45fd078a3d4a06f37ddf28cefa83bdd936", func := "netlab/netlablaw07.TokenMatches", spec := "tokenMatches", inPlace := ["internal/bytealg.IndexByteString", "internal/bytealg.IndexString", "internal/abi.NoEscape"], unfollowed := true, recurses := true, named := ["internal/bytealg.MaxLen", "internal/strconv.uint64pow10", "math/bits.deBruijn32tab", "math/bits.deBruijn64tab"], apart := false, laid := [("math/bits.deBruijn32tab", laid_math_bits_deBruijn32tab), ("math/bits.deBruijn64tab", laid_math_bits_deBruijn64tab), ("internal/strconv.uint64pow10", laid_internal_strconv_uint64pow10)] }
def TokenMatchesSaid : Prop := tokenMatchesRow.holds Tryz.pinned (OpenSpec.ofChange tokenMatchesSpec)

/-- ITS FALSE NEIGHBOUR: 'it returns false'. Refute it at one input. -/
def tokenMatchesWrong : ChangeSpec := { name := "tokenMatches", fn := fun _ => fun
  | [d1, d2] => { results := [.lit (.bool false)], args := [d1, d2] }
  | _ => none }
def TokenMatchesWrongFalsely : Prop := tokenMatchesRow.holds Tryz.pinned (OpenSpec.ofChange tokenMatchesWrong)

/-- 'netlablaw07.TokenProgress': WHATEVER THE INPUT: true; the input reads as it did. -/
def tokenProgressSpec : ChangeSpec := { name := "tokenProgress", fn := fun _ => fun
  | [d] => { results := [.lit (.bool true)], args := [d] }
  | _ => none }
def tokenProgressRow : OpenClaim := { program := "ytioldkniiilhnaagreatdoor", sum := "937e8089fbbaa31eb12d1ab386ae2b45fd078a3d4a06f37ddf28cefa83bdd936", func := "netlab/netlablaw07.TokenProgress", spec := "tokenProgress", inPlace := ["internal/bytealg.IndexByteString", "internal/bytealg.IndexString", "internal/abi.NoEscape"], unfollowed := true, recurses := true, named := ["internal/bytealg.MaxLen", "internal/strconv.uint64pow10", "math/bits.deBruijn32tab", "math/bits.deBruijn64tab"], apart := false, laid := [("math/bits.deBruijn32tab", laid_math_bits_deBruijn32tab), ("math/bits.deBruijn64tab", laid_math_bits_deBruijn64tab), ("internal/strconv.uint64pow10", laid_internal_strconv_uint64pow10)] }
def TokenProgressSaid : Prop := tokenProgressRow.holds Tryz.pinned (OpenSpec.ofChange tokenProgressSpec)

/-- ITS FALSE NEIGHBOUR: 'it returns false'. Refute it at one input. -/
def tokenProgressWrong : ChangeSpec := { name := "tokenProgress", fn := fun _ => fun
  | [d] => { results := [.lit (.bool false)], args := [d] }
  | _ => none }
def TokenProgressWrongFalsely : Prop := tokenProgressRow.holds Tryz.pinned (OpenSpec.ofChange tokenProgressWrong)

/-- 'netlablaw07.TokenLongest': WHATEVER THE INPUT: true; the input reads as it did. -/
def tokenLongestSpec : ChangeSpec := { name := "tokenLongest", fn := fun _ => fun
  | [d1, d2] => { results := [.lit (.bool true)], args := [d1, d2] }
  | _ => none }
def tokenLongestRow : OpenClaim := { program := "ytioldkniiilhnaagreatdoor", sum := "937e8089fbbaa31eb12d1ab386ae2b45fd078a3d4a06f37ddf28cefa83bdd936", func := "netlab/netlablaw07.TokenLongest", spec := "tokenLongest", inPlace := ["internal/bytealg.IndexByteString", "internal/bytealg.IndexString", "internal/abi.NoEscape"], unfollowed := true, recurses := true, named := ["internal/bytealg.MaxLen", "internal/strconv.uint64pow10", "math/bits.deBruijn32tab", "math/bits.deBruijn64tab"], apart := false, laid := [("math/bits.deBruijn32tab", laid_math_bits_deBruijn32tab), ("math/bits.deBruijn64tab", laid_math_bits_deBruijn64tab), ("internal/strconv.uint64pow10", laid_internal_strconv_uint64pow10)] }
def TokenLongestSaid : Prop := tokenLongestRow.holds Tryz.pinned (OpenSpec.ofChange tokenLongestSpec)

/-- ITS FALSE NEIGHBOUR: 'it returns false'. Refute it at one input. -/
def tokenLongestWrong : ChangeSpec := { name := "tokenLongest", fn := fun _ => fun
  | [d1, d2] => { results := [.lit (.bool false)], args := [d1, d2] }
  | _ => none }
def TokenLongestWrongFalsely : Prop := tokenLongestRow.holds Tryz.pinned (OpenSpec.ofChange tokenLongestWrong)

/-- 'netlablaw07.TokenConcatenates': WHATEVER THE INPUT: true; the input reads as it did. -/
def tokenConcatenatesSpec : ChangeSpec := { name := "tokenConcatenates", fn := fun _ => fun
  | [d1, d2] => { results := [.lit (.bool true)], args := [d1, d2] }
  | _ => none }
def tokenConcatenatesRow : OpenClaim := { program := "ytioldkniiilhnaagreatdoor", sum := "937e8089fbbaa31eb12d1ab386ae2b45fd078a3d4a06f37ddf28cefa83bdd936", func := "netlab/netlablaw07.TokenConcatenates", spec := "tokenConcatenates", inPlace := ["internal/bytealg.IndexByteString", "internal/bytealg.IndexString", "internal/abi.NoEscape"], unfollowed := true, recurses := true, named := ["internal/bytealg.MaxLen", "internal/strconv.uint64pow10", "math/bits.deBruijn32tab", "math/bits.deBruijn64tab"], apart := false, laid := [("math/bits.deBruijn32tab", laid_math_bits_deBruijn32tab), ("math/bits.deBruijn64tab", laid_math_bits_deBruijn64tab), ("internal/strconv.uint64pow10", laid_internal_strconv_uint64pow10)] }
def TokenConcatenatesSaid : Prop := tokenConcatenatesRow.holds Tryz.pinned (OpenSpec.ofChange tokenConcatenatesSpec)

/-- ITS FALSE NEIGHBOUR: 'it returns false'. Refute it at one input. -/
def tokenConcatenatesWrong : ChangeSpec := { name := "tokenConcatenates", fn := fun _ => fun
  | [d1, d2] => { results := [.lit (.bool false)], args := [d1, d2] }
  | _ => none }
def TokenConcatenatesWrongFalsely : Prop := tokenConcatenatesRow.holds Tryz.pinned (OpenSpec.ofChange tokenConcatenatesWrong)

/-- 'netlablaw07.TokenTakesMatch': WHATEVER THE INPUT: true; the input reads as it did. -/
def tokenTakesMatchSpec : ChangeSpec := { name := "tokenTakesMatch", fn := fun _ => fun
  | [d1, d2, d3] => { results := [.lit (.bool true)], args := [d1, d2, d3] }
  | _ => none }
def tokenTakesMatchRow : OpenClaim := { program := "ytioldkniiilhnaagreatdoor", sum := "937e8089fbbaa31eb12d1ab386ae2b45fd078a3d4a06f37ddf28cefa83bdd936", func := "netlab/netlablaw07.TokenTakesMatch", spec := "tokenTakesMatch", inPlace := ["internal/bytealg.IndexByteString", "internal/bytealg.IndexString", "internal/abi.NoEscape"], unfollowed := true, recurses := true, named := ["internal/bytealg.MaxLen", "internal/strconv.uint64pow10", "math/bits.deBruijn32tab", "math/bits.deBruijn64tab"], apart := false, laid := [("math/bits.deBruijn32tab", laid_math_bits_deBruijn32tab), ("math/bits.deBruijn64tab", laid_math_bits_deBruijn64tab), ("internal/strconv.uint64pow10", laid_internal_strconv_uint64pow10)] }
def TokenTakesMatchSaid : Prop := tokenTakesMatchRow.holds Tryz.pinned (OpenSpec.ofChange tokenTakesMatchSpec)

/-- ITS FALSE NEIGHBOUR: 'it returns false'. Refute it at one input. -/
def tokenTakesMatchWrong : ChangeSpec := { name := "tokenTakesMatch", fn := fun _ => fun
  | [d1, d2, d3] => { results := [.lit (.bool false)], args := [d1, d2, d3] }
  | _ => none }
def TokenTakesMatchWrongFalsely : Prop := tokenTakesMatchRow.holds Tryz.pinned (OpenSpec.ofChange tokenTakesMatchWrong)

/-- 'netlablaw07.TokenFormatMatches': WHATEVER THE INPUT: true; the input reads as it did. -/
def tokenFormatMatchesSpec : ChangeSpec := { name := "tokenFormatMatches", fn := fun _ => fun
  | [d] => { results := [.lit (.bool true)], args := [d] }
  | _ => none }
def tokenFormatMatchesRow : OpenClaim := { program := "ytioldkniiilhnaagreatdoor", sum := "937e8089fbbaa31eb12d1ab386ae2b45fd078a3d4a06f37ddf28cefa83bdd936", func := "netlab/netlablaw07.TokenFormatMatches", spec := "tokenFormatMatches", inPlace := ["internal/bytealg.IndexByteString", "internal/bytealg.IndexString", "internal/abi.NoEscape", "internal/bytealg.MakeNoZero"], unfollowed := true, recurses := true, named := ["internal/bytealg.MaxLen", "internal/strconv.uint64pow10", "math/bits.deBruijn32tab", "math/bits.deBruijn64tab"], apart := false, laid := [("math/bits.deBruijn32tab", laid_math_bits_deBruijn32tab), ("math/bits.deBruijn64tab", laid_math_bits_deBruijn64tab), ("internal/strconv.uint64pow10", laid_internal_strconv_uint64pow10)] }
def TokenFormatMatchesSaid : Prop := tokenFormatMatchesRow.holds Tryz.pinned (OpenSpec.ofChange tokenFormatMatchesSpec)

/-- ITS FALSE NEIGHBOUR: 'it returns false'. Refute it at one input. -/
def tokenFormatMatchesWrong : ChangeSpec := { name := "tokenFormatMatches", fn := fun _ => fun
  | [d] => { results := [.lit (.bool false)], args := [d] }
  | _ => none }
def TokenFormatMatchesWrongFalsely : Prop := tokenFormatMatchesRow.holds Tryz.pinned (OpenSpec.ofChange tokenFormatMatchesWrong)

/-- 'netlablaw07.TokenRoundTrip': WHATEVER THE INPUT: true; the input reads as it did. -/
def tokenRoundTripSpec : ChangeSpec := { name := "tokenRoundTrip", fn := fun _ => fun
  | [d1, d2] => { results := [.lit (.bool true)], args := [d1, d2] }
  | _ => none }
def tokenRoundTripRow : OpenClaim := { program := "ytioldkniiilhnaagreatdoor", sum := "937e8089fbbaa31eb12d1ab386ae2b45fd078a3d4a06f37ddf28cefa83bdd936", func := "netlab/netlablaw07.TokenRoundTrip", spec := "tokenRoundTrip", inPlace := ["internal/bytealg.IndexByteString", "internal/bytealg.IndexString", "internal/abi.NoEscape", "internal/bytealg.MakeNoZero"], unfollowed := true, recurses := true, named := ["internal/bytealg.MaxLen", "internal/strconv.uint64pow10", "math/bits.deBruijn32tab", "math/bits.deBruijn64tab"], apart := false, laid := [("math/bits.deBruijn32tab", laid_math_bits_deBruijn32tab), ("math/bits.deBruijn64tab", laid_math_bits_deBruijn64tab), ("internal/strconv.uint64pow10", laid_internal_strconv_uint64pow10)] }
def TokenRoundTripSaid : Prop := tokenRoundTripRow.holds Tryz.pinned (OpenSpec.ofChange tokenRoundTripSpec)

/-- ITS FALSE NEIGHBOUR: 'it returns false'. Refute it at one input. -/
def tokenRoundTripWrong : ChangeSpec := { name := "tokenRoundTrip", fn := fun _ => fun
  | [d1, d2] => { results := [.lit (.bool false)], args := [d1, d2] }
  | _ => none }
def TokenRoundTripWrongFalsely : Prop := tokenRoundTripRow.holds Tryz.pinned (OpenSpec.ofChange tokenRoundTripWrong)

/-- 'netlablaw07.TokenSeparators': WHATEVER THE INPUT: true; the input reads as it did. -/
def tokenSeparatorsSpec : ChangeSpec := { name := "tokenSeparators", fn := fun _ => fun
  | [d1, d2] => { results := [.lit (.bool true)], args := [d1, d2] }
  | _ => none }
def tokenSeparatorsRow : OpenClaim := { program := "ytioldkniiilhnaagreatdoor", sum := "937e8089fbbaa31eb12d1ab386ae2b45fd078a3d4a06f37ddf28cefa83bdd936", func := "netlab/netlablaw07.TokenSeparators", spec := "tokenSeparators", inPlace := ["internal/bytealg.IndexByteString", "internal/bytealg.IndexString", "internal/abi.NoEscape", "internal/bytealg.MakeNoZero"], unfollowed := true, recurses := true, named := ["internal/bytealg.MaxLen", "internal/strconv.uint64pow10", "math/bits.deBruijn32tab", "math/bits.deBruijn64tab"], apart := false, laid := [("math/bits.deBruijn32tab", laid_math_bits_deBruijn32tab), ("math/bits.deBruijn64tab", laid_math_bits_deBruijn64tab), ("internal/strconv.uint64pow10", laid_internal_strconv_uint64pow10)] }
def TokenSeparatorsSaid : Prop := tokenSeparatorsRow.holds Tryz.pinned (OpenSpec.ofChange tokenSeparatorsSpec)

/-- ITS FALSE NEIGHBOUR: 'it returns false'. Refute it at one input. -/
def tokenSeparatorsWrong : ChangeSpec := { name := "tokenSeparators", fn := fun _ => fun
  | [d1, d2] => { results := [.lit (.bool false)], args := [d1, d2] }
  | _ => none }
def TokenSeparatorsWrongFalsely : Prop := tokenSeparatorsRow.holds Tryz.pinned (OpenSpec.ofChange tokenSeparatorsWrong)

/-- 'netlablaw07.TokenExamples': WHATEVER THE INPUT: true; the input reads as it did. -/
def tokenExamplesSpec : ChangeSpec := { name := "tokenExamples", fn := fun _ => fun
  | [] => { results := [.lit (.bool true)], args := [] }
  | _ => none }
def tokenExamplesRow : OpenClaim := { program := "ytioldkniiilhnaagreatdoor", sum := "937e8089fbbaa31eb12d1ab386ae2b45fd078a3d4a06f37ddf28cefa83bdd936", func := "netlab/netlablaw07.TokenExamples", spec := "tokenExamples", inPlace := ["internal/bytealg.IndexByteString", "internal/bytealg.IndexString", "internal/abi.NoEscape", "internal/bytealg.MakeNoZero"], unfollowed := true, recurses := true, named := ["internal/bytealg.MaxLen", "internal/strconv.uint64pow10", "math/bits.deBruijn32tab", "math/bits.deBruijn64tab"], apart := false, laid := [("math/bits.deBruijn32tab", laid_math_bits_deBruijn32tab), ("math/bits.deBruijn64tab", laid_math_bits_deBruijn64tab), ("internal/strconv.uint64pow10", laid_internal_strconv_uint64pow10)] }
def TokenExamplesSaid : Prop := tokenExamplesRow.holds Tryz.pinned (OpenSpec.ofChange tokenExamplesSpec)

/-- ITS FALSE NEIGHBOUR: 'it returns false'. Refute it at one input. -/
def tokenExamplesWrong : ChangeSpec := { name := "tokenExamples", fn := fun _ => fun
  | [] => { results := [.lit (.bool false)], args := [] }
  | _ => none }
def TokenExamplesWrongFalsely : Prop := tokenExamplesRow.holds Tryz.pinned (OpenSpec.ofChange tokenExamplesWrong)

/- THE SECOND FORM. 'bulk': how many values and letters a reading holds, each counted each time it is reached (what is shared counts as often as it is met; a slice's spare places count too). A statement '..UptoSaid' is the law's where the arguments, and the package variables that the reading takes, are together of bulk at most 1048576: NARROWER than '..Said'. Prove '..Said' where nothing that the law and all that it calls make is longer than what came in: it says more and counts as full. Else prove '..UptoSaid'. A law counts once. -/
mutual
def uptoBulk {H : Type} : DataW H → Nat
  | .lit (.string bytes) => bytes.length + 1
  | .lit _ => 1
  | .nil => 1
  | .ptr d => uptoBulk d + 1
  | .slice elems spare => uptoBulkAll elems + uptoBulkAll spare + 1
  | .agg parts => uptoBulkAll parts + 1
  | .iface _ d => uptoBulk d + 1
  | .map entries => uptoBulkEntries entries + 1
  | .held _ => 1
def uptoBulkAll {H : Type} : List (DataW H) → Nat
  | [] => 0
  | d :: r => uptoBulk d + uptoBulkAll r
def uptoBulkEntries {H : Type} : List (Lit × DataW H) → Nat
  | [] => 0
  | x :: r => uptoBulkEntry x + uptoBulkEntries r
def uptoBulkEntry {H : Type} : Lit × DataW H → Nat
  | (.string bytes, d) => bytes.length + uptoBulk d + 1
  | (_, d) => uptoBulk d + 1
 end
def uptoSmall : (H : Type) → List (DataW H) → Bool := fun _ ds => decide (uptoBulkAll ds ≤ 1048576)
def OpenSpec.upto (s : _root_.Go.ChangeSpec) : _root_.Go.OpenSpec := { _root_.Go.OpenSpec.ofChange s with cond := some uptoSmall }

/-- 'netlablaw07.TokenMatches', WHERE WHAT IT READS IS OF BULK AT MOST 1048576: true; the input reads as it did. -/
def tokenMatchesUptoRow : OpenClaim := { program := "ytioldkniiilhnaagreatdoor", sum := "937e8089fbbaa31eb12d1ab386ae2b45fd078a3d4a06f37ddf28cefa83bdd936", func := "netlab/netlablaw07.TokenMatches", spec := "tokenMatches", inPlace := ["internal/bytealg.IndexByteString", "internal/bytealg.IndexString", "internal/abi.NoEscape"], unfollowed := true, recurses := true, named := ["internal/bytealg.MaxLen", "internal/strconv.uint64pow10", "math/bits.deBruijn32tab", "math/bits.deBruijn64tab"], apart := false, laid := [("math/bits.deBruijn32tab", laid_math_bits_deBruijn32tab), ("math/bits.deBruijn64tab", laid_math_bits_deBruijn64tab), ("internal/strconv.uint64pow10", laid_internal_strconv_uint64pow10)], narrowed := true }
def TokenMatchesUptoSaid : Prop := tokenMatchesUptoRow.holds Tryz.pinned (OpenSpec.upto tokenMatchesSpec)

/-- 'netlablaw07.TokenProgress', WHERE WHAT IT READS IS OF BULK AT MOST 1048576: true; the input reads as it did. -/
def tokenProgressUptoRow : OpenClaim := { program := "ytioldkniiilhnaagreatdoor", sum := "937e8089fbbaa31eb12d1ab386ae2b45fd078a3d4a06f37ddf28cefa83bdd936", func := "netlab/netlablaw07.TokenProgress", spec := "tokenProgress", inPlace := ["internal/bytealg.IndexByteString", "internal/bytealg.IndexString", "internal/abi.NoEscape"], unfollowed := true, recurses := true, named := ["internal/bytealg.MaxLen", "internal/strconv.uint64pow10", "math/bits.deBruijn32tab", "math/bits.deBruijn64tab"], apart := false, laid := [("math/bits.deBruijn32tab", laid_math_bits_deBruijn32tab), ("math/bits.deBruijn64tab", laid_math_bits_deBruijn64tab), ("internal/strconv.uint64pow10", laid_internal_strconv_uint64pow10)], narrowed := true }
def TokenProgressUptoSaid : Prop := tokenProgressUptoRow.holds Tryz.pinned (OpenSpec.upto tokenProgressSpec)

/-- 'netlablaw07.TokenLongest', WHERE WHAT IT READS IS OF BULK AT MOST 1048576: true; the input reads as it did. -/
def tokenLongestUptoRow : OpenClaim := { program := "ytioldkniiilhnaagreatdoor", sum := "937e8089fbbaa31eb12d1ab386ae2b45fd078a3d4a06f37ddf28cefa83bdd936", func := "netlab/netlablaw07.TokenLongest", spec := "tokenLongest", inPlace := ["internal/bytealg.IndexByteString", "internal/bytealg.IndexString", "internal/abi.NoEscape"], unfollowed := true, recurses := true, named := ["internal/bytealg.MaxLen", "internal/strconv.uint64pow10", "math/bits.deBruijn32tab", "math/bits.deBruijn64tab"], apart := false, laid := [("math/bits.deBruijn32tab", laid_math_bits_deBruijn32tab), ("math/bits.deBruijn64tab", laid_math_bits_deBruijn64tab), ("internal/strconv.uint64pow10", laid_internal_strconv_uint64pow10)], narrowed := true }
def TokenLongestUptoSaid : Prop := tokenLongestUptoRow.holds Tryz.pinned (OpenSpec.upto tokenLongestSpec)

/-- 'netlablaw07.TokenConcatenates', WHERE WHAT IT READS IS OF BULK AT MOST 1048576: true; the input reads as it did. -/
def tokenConcatenatesUptoRow : OpenClaim := { program := "ytioldkniiilhnaagreatdoor", sum := "937e8089fbbaa31eb12d1ab386ae2b45fd078a3d4a06f37ddf28cefa83bdd936", func := "netlab/netlablaw07.TokenConcatenates", spec := "tokenConcatenates", inPlace := ["internal/bytealg.IndexByteString", "internal/bytealg.IndexString", "internal/abi.NoEscape"], unfollowed := true, recurses := true, named := ["internal/bytealg.MaxLen", "internal/strconv.uint64pow10", "math/bits.deBruijn32tab", "math/bits.deBruijn64tab"], apart := false, laid := [("math/bits.deBruijn32tab", laid_math_bits_deBruijn32tab), ("math/bits.deBruijn64tab", laid_math_bits_deBruijn64tab), ("internal/strconv.uint64pow10", laid_internal_strconv_uint64pow10)], narrowed := true }
def TokenConcatenatesUptoSaid : Prop := tokenConcatenatesUptoRow.holds Tryz.pinned (OpenSpec.upto tokenConcatenatesSpec)

/-- 'netlablaw07.TokenTakesMatch', WHERE WHAT IT READS IS OF BULK AT MOST 1048576: true; the input reads as it did. -/
def tokenTakesMatchUptoRow : OpenClaim := { program := "ytioldkniiilhnaagreatdoor", sum := "937e8089fbbaa31eb12d1ab386ae2b45fd078a3d4a06f37ddf28cefa83bdd936", func := "netlab/netlablaw07.TokenTakesMatch", spec := "tokenTakesMatch", inPlace := ["internal/bytealg.IndexByteString", "internal/bytealg.IndexString", "internal/abi.NoEscape"], unfollowed := true, recurses := true, named := ["internal/bytealg.MaxLen", "internal/strconv.uint64pow10", "math/bits.deBruijn32tab", "math/bits.deBruijn64tab"], apart := false, laid := [("math/bits.deBruijn32tab", laid_math_bits_deBruijn32tab), ("math/bits.deBruijn64tab", laid_math_bits_deBruijn64tab), ("internal/strconv.uint64pow10", laid_internal_strconv_uint64pow10)], narrowed := true }
def TokenTakesMatchUptoSaid : Prop := tokenTakesMatchUptoRow.holds Tryz.pinned (OpenSpec.upto tokenTakesMatchSpec)

/-- 'netlablaw07.TokenFormatMatches', WHERE WHAT IT READS IS OF BULK AT MOST 1048576: true; the input reads as it did. -/
def tokenFormatMatchesUptoRow : OpenClaim := { program := "ytioldkniiilhnaagreatdoor", sum := "937e8089fbbaa31eb12d1ab386ae2b45fd078a3d4a06f37ddf28cefa83bdd936", func := "netlab/netlablaw07.TokenFormatMatches", spec := "tokenFormatMatches", inPlace := ["internal/bytealg.IndexByteString", "internal/bytealg.IndexString", "internal/abi.NoEscape", "internal/bytealg.MakeNoZero"], unfollowed := true, recurses := true, named := ["internal/bytealg.MaxLen", "internal/strconv.uint64pow10", "math/bits.deBruijn32tab", "math/bits.deBruijn64tab"], apart := false, laid := [("math/bits.deBruijn32tab", laid_math_bits_deBruijn32tab), ("math/bits.deBruijn64tab", laid_math_bits_deBruijn64tab), ("internal/strconv.uint64pow10", laid_internal_strconv_uint64pow10)], narrowed := true }
def TokenFormatMatchesUptoSaid : Prop := tokenFormatMatchesUptoRow.holds Tryz.pinned (OpenSpec.upto tokenFormatMatchesSpec)

/-- 'netlablaw07.TokenRoundTrip', WHERE WHAT IT READS IS OF BULK AT MOST 1048576: true; the input reads as it did. -/
def tokenRoundTripUptoRow : OpenClaim := { program := "ytioldkniiilhnaagreatdoor", sum := "937e8089fbbaa31eb12d1ab386ae2b45fd078a3d4a06f37ddf28cefa83bdd936", func := "netlab/netlablaw07.TokenRoundTrip", spec := "tokenRoundTrip", inPlace := ["internal/bytealg.IndexByteString", "internal/bytealg.IndexString", "internal/abi.NoEscape", "internal/bytealg.MakeNoZero"], unfollowed := true, recurses := true, named := ["internal/bytealg.MaxLen", "internal/strconv.uint64pow10", "math/bits.deBruijn32tab", "math/bits.deBruijn64tab"], apart := false, laid := [("math/bits.deBruijn32tab", laid_math_bits_deBruijn32tab), ("math/bits.deBruijn64tab", laid_math_bits_deBruijn64tab), ("internal/strconv.uint64pow10", laid_internal_strconv_uint64pow10)], narrowed := true }
def TokenRoundTripUptoSaid : Prop := tokenRoundTripUptoRow.holds Tryz.pinned (OpenSpec.upto tokenRoundTripSpec)

/-- 'netlablaw07.TokenSeparators', WHERE WHAT IT READS IS OF BULK AT MOST 1048576: true; the input reads as it did. -/
def tokenSeparatorsUptoRow : OpenClaim := { program := "ytioldkniiilhnaagreatdoor", sum := "937e8089fbbaa31eb12d1ab386ae2b45fd078a3d4a06f37ddf28cefa83bdd936", func := "netlab/netlablaw07.TokenSeparators", spec := "tokenSeparators", inPlace := ["internal/bytealg.IndexByteString", "internal/bytealg.IndexString", "internal/abi.NoEscape", "internal/bytealg.MakeNoZero"], unfollowed := true, recurses := true, named := ["internal/bytealg.MaxLen", "internal/strconv.uint64pow10", "math/bits.deBruijn32tab", "math/bits.deBruijn64tab"], apart := false, laid := [("math/bits.deBruijn32tab", laid_math_bits_deBruijn32tab), ("math/bits.deBruijn64tab", laid_math_bits_deBruijn64tab), ("internal/strconv.uint64pow10", laid_internal_strconv_uint64pow10)], narrowed := true }
def TokenSeparatorsUptoSaid : Prop := tokenSeparatorsUptoRow.holds Tryz.pinned (OpenSpec.upto tokenSeparatorsSpec)

/-- 'netlablaw07.TokenExamples', WHERE WHAT IT READS IS OF BULK AT MOST 1048576: true; the input reads as it did. -/
def tokenExamplesUptoRow : OpenClaim := { program := "ytioldkniiilhnaagreatdoor", sum := "937e8089fbbaa31eb12d1ab386ae2b45fd078a3d4a06f37ddf28cefa83bdd936", func := "netlab/netlablaw07.TokenExamples", spec := "tokenExamples", inPlace := ["internal/bytealg.IndexByteString", "internal/bytealg.IndexString", "internal/abi.NoEscape", "internal/bytealg.MakeNoZero"], unfollowed := true, recurses := true, named := ["internal/bytealg.MaxLen", "internal/strconv.uint64pow10", "math/bits.deBruijn32tab", "math/bits.deBruijn64tab"], apart := false, laid := [("math/bits.deBruijn32tab", laid_math_bits_deBruijn32tab), ("math/bits.deBruijn64tab", laid_math_bits_deBruijn64tab), ("internal/strconv.uint64pow10", laid_internal_strconv_uint64pow10)], narrowed := true }
def TokenExamplesUptoSaid : Prop := tokenExamplesUptoRow.holds Tryz.pinned (OpenSpec.upto tokenExamplesSpec)

end Rows
end Go.Proofs.YtioldkniiilhnaaGreatDoor
