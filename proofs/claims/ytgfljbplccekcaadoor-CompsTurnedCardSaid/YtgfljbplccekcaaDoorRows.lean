/-
  NARROWER THAN 'FOR EVERY INPUT', by the rows' own cells (each row's printed sentence says how): SearchNone: laid · SearchYes: laid · SearchServed: laid · SearchTurned: laid · CompsTells: laid · CompsParts: laid · CompsRing: laid · CompsNobody: laid · RegsRises: laid · CompsTurned: laid · RegsServed: laid · RegsTwice: laid · RegsNobody: laid.
  DERIVED. THE GIVEN ROWS OF THIS SEAT. 13 by the template 'for every input the law returns true; each argument reads behind the call as it read before'; 0 by the template 'total and deterministic' (their statements: YtgfljbplccekcaaDoorTotals.lean).
  GIVEN WITH THE SEED: the statements are not yours to turn. If you find one false, say at which input.
  Laid BY PROGRAM, IN A SANDBOX (cutbox-rows.mjs): the forced cells as the released guide's own fill.sh prints them over the translation 3bc7b5ac5494dadc… (all of the seat's roots in one cut). By AI agents, Wed Nov 11 2026. No macro, syntax, notation, axiom, sorry.
-/
import Derived.Test.YtgfljbplccekcaaDoorChecked
import GoSem.Claim
import GoSem.ClaimJoined
import GoSem.ClaimMapViews
import Derived.JoinedTies
import Derived.KernelRfl
namespace Go.Proofs.YtgfljbplccekcaaDoor
/- THE CELL 'sum', in the pinned program and in every row, IS THE sha256 OF THE DUMP (.gsa) THAT YtgfljbplccekcaaDoorProg.lean LOADS. Nothing in Lean hashes anything: it is a label: what it is worth is what the hold of that sum in a sandbox is worth. -/
noncomputable def Tryd.pinned : Pinned := { name := "ytgfljbplccekcaadoor", sum := "3bc7b5ac5494dadcadb95ca21624b374270507578263296688d92f10c77725c6", checked := Tryd.checked }
namespace Rows
def none {H : Type} : Left H := { results := [], args := [] }

/- WHAT THE LISTED PACKAGE-LEVEL VARIABLES READ AS WHEN THE CALL BEGINS. Each datum BY PROGRAM (the guide's laid-datum.mjs) off the statement by which the dump's own 'gosem.cut.vars' lays the variable. In a bare row this is a premise. The card (YtgfljbplccekcaaDoorCards.lean) ties it to the program's text. -/
def laid_math_bits_deBruijn32tab {H : Type} : DataW H := .agg [.lit (.int .u8 0), .lit (.int .u8 1), .lit (.int .u8 28), .lit (.int .u8 2), .lit (.int .u8 29), .lit (.int .u8 14), .lit (.int .u8 24), .lit (.int .u8 3), .lit (.int .u8 30), .lit (.int .u8 22), .lit (.int .u8 20), .lit (.int .u8 15), .lit (.int .u8 25), .lit (.int .u8 17), .lit (.int .u8 4), .lit (.int .u8 8), .lit (.int .u8 31), .lit (.int .u8 27), .lit (.int .u8 13), .lit (.int .u8 23), .lit (.int .u8 21), .lit (.int .u8 19), .lit (.int .u8 16), .lit (.int .u8 7), .lit (.int .u8 26), .lit (.int .u8 12), .lit (.int .u8 18), .lit (.int .u8 6), .lit (.int .u8 11), .lit (.int .u8 5), .lit (.int .u8 10), .lit (.int .u8 9)]
def laid_math_bits_deBruijn64tab {H : Type} : DataW H := .agg [.lit (.int .u8 0), .lit (.int .u8 1), .lit (.int .u8 56), .lit (.int .u8 2), .lit (.int .u8 57), .lit (.int .u8 49), .lit (.int .u8 28), .lit (.int .u8 3), .lit (.int .u8 61), .lit (.int .u8 58), .lit (.int .u8 42), .lit (.int .u8 50), .lit (.int .u8 38), .lit (.int .u8 29), .lit (.int .u8 17), .lit (.int .u8 4), .lit (.int .u8 62), .lit (.int .u8 47), .lit (.int .u8 59), .lit (.int .u8 36), .lit (.int .u8 45), .lit (.int .u8 43), .lit (.int .u8 51), .lit (.int .u8 22), .lit (.int .u8 53), .lit (.int .u8 39), .lit (.int .u8 33), .lit (.int .u8 30), .lit (.int .u8 24), .lit (.int .u8 18), .lit (.int .u8 12), .lit (.int .u8 5), .lit (.int .u8 63), .lit (.int .u8 55), .lit (.int .u8 48), .lit (.int .u8 27), .lit (.int .u8 60), .lit (.int .u8 41), .lit (.int .u8 37), .lit (.int .u8 16), .lit (.int .u8 46), .lit (.int .u8 35), .lit (.int .u8 44), .lit (.int .u8 21), .lit (.int .u8 52), .lit (.int .u8 32), .lit (.int .u8 23), .lit (.int .u8 11), .lit (.int .u8 54), .lit (.int .u8 26), .lit (.int .u8 40), .lit (.int .u8 15), .lit (.int .u8 34), .lit (.int .u8 20), .lit (.int .u8 31), .lit (.int .u8 10), .lit (.int .u8 25), .lit (.int .u8 14), .lit (.int .u8 19), .lit (.int .u8 9), .lit (.int .u8 13), .lit (.int .u8 8), .lit (.int .u8 7), .lit (.int .u8 6)]
def laid_internal_strconv_uint64pow10 {H : Type} : DataW H := .agg [.lit (.int .u64 1), .lit (.int .u64 10), .lit (.int .u64 100), .lit (.int .u64 1000), .lit (.int .u64 10000), .lit (.int .u64 100000), .lit (.int .u64 1000000), .lit (.int .u64 10000000), .lit (.int .u64 100000000), .lit (.int .u64 1000000000), .lit (.int .u64 10000000000), .lit (.int .u64 100000000000), .lit (.int .u64 1000000000000), .lit (.int .u64 10000000000000), .lit (.int .u64 100000000000000), .lit (.int .u64 1000000000000000), .lit (.int .u64 10000000000000000), .lit (.int .u64 100000000000000000), .lit (.int .u64 1000000000000000000), .lit (.int .u64 10000000000000000000)]

/-- 'assayerlaw17.SearchNone': WHATEVER THE INPUT: true; the input reads as it did. -/
def searchNoneSpec : ChangeSpec := { name := "searchNone", fn := fun _ => fun
  | [d1, d2] => { results := [.lit (.bool true)], args := [d1, d2] }
  | _ => none }
def searchNoneRow : OpenClaim := { program := "ytgfljbplccekcaadoor", sum := "3bc7b5ac5494dadcadb95ca21624b374270507578263296688d92f10c77725c6", func := "assayer/assayerlaw17.SearchNone", spec := "searchNone", inPlace := ["maps.clone", "internal/abi.NoEscape"], unfollowed := true, recurses := true, named := ["math/bits.deBruijn64tab", "internal/strconv.uint64pow10", "math/bits.deBruijn32tab"], plainKeys := false, apart := false, laid := [("math/bits.deBruijn32tab", laid_math_bits_deBruijn32tab), ("math/bits.deBruijn64tab", laid_math_bits_deBruijn64tab), ("internal/strconv.uint64pow10", laid_internal_strconv_uint64pow10)] }
def SearchNoneSaid : Prop := searchNoneRow.holds Tryd.pinned (OpenSpec.ofChange searchNoneSpec)

/-- ITS FALSE NEIGHBOUR: 'it returns false'. Refute it at one input. -/
def searchNoneWrong : ChangeSpec := { name := "searchNone", fn := fun _ => fun
  | [d1, d2] => { results := [.lit (.bool false)], args := [d1, d2] }
  | _ => none }
def SearchNoneWrongFalsely : Prop := searchNoneRow.holds Tryd.pinned (OpenSpec.ofChange searchNoneWrong)

/-- 'assayerlaw17.SearchYes': WHATEVER THE INPUT: true; the input reads as it did. -/
def searchYesSpec : ChangeSpec := { name := "searchYes", fn := fun _ => fun
  | [d1, d2] => { results := [.lit (.bool true)], args := [d1, d2] }
  | _ => none }
def searchYesRow : OpenClaim := { program := "ytgfljbplccekcaadoor", sum := "3bc7b5ac5494dadcadb95ca21624b374270507578263296688d92f10c77725c6", func := "assayer/assayerlaw17.SearchYes", spec := "searchYes", inPlace := ["maps.clone", "internal/abi.NoEscape"], unfollowed := true, recurses := true, named := ["math/bits.deBruijn64tab", "internal/strconv.uint64pow10", "math/bits.deBruijn32tab"], plainKeys := false, apart := false, laid := [("math/bits.deBruijn32tab", laid_math_bits_deBruijn32tab), ("math/bits.deBruijn64tab", laid_math_bits_deBruijn64tab), ("internal/strconv.uint64pow10", laid_internal_strconv_uint64pow10)] }
def SearchYesSaid : Prop := searchYesRow.holds Tryd.pinned (OpenSpec.ofChange searchYesSpec)

/-- ITS FALSE NEIGHBOUR: 'it returns false'. Refute it at one input. -/
def searchYesWrong : ChangeSpec := { name := "searchYes", fn := fun _ => fun
  | [d1, d2] => { results := [.lit (.bool false)], args := [d1, d2] }
  | _ => none }
def SearchYesWrongFalsely : Prop := searchYesRow.holds Tryd.pinned (OpenSpec.ofChange searchYesWrong)

/-- 'assayerlaw17.SearchServed': WHATEVER THE INPUT: true; the input reads as it did. -/
def searchServedSpec : ChangeSpec := { name := "searchServed", fn := fun _ => fun
  | [d] => { results := [.lit (.bool true)], args := [d] }
  | _ => none }
def searchServedRow : OpenClaim := { program := "ytgfljbplccekcaadoor", sum := "3bc7b5ac5494dadcadb95ca21624b374270507578263296688d92f10c77725c6", func := "assayer/assayerlaw17.SearchServed", spec := "searchServed", inPlace := ["maps.clone", "internal/abi.NoEscape"], unfollowed := true, recurses := true, named := ["math/bits.deBruijn64tab", "internal/strconv.uint64pow10", "math/bits.deBruijn32tab"], plainKeys := false, apart := false, laid := [("math/bits.deBruijn32tab", laid_math_bits_deBruijn32tab), ("math/bits.deBruijn64tab", laid_math_bits_deBruijn64tab), ("internal/strconv.uint64pow10", laid_internal_strconv_uint64pow10)] }
def SearchServedSaid : Prop := searchServedRow.holds Tryd.pinned (OpenSpec.ofChange searchServedSpec)

/-- ITS FALSE NEIGHBOUR: 'it returns false'. Refute it at one input. -/
def searchServedWrong : ChangeSpec := { name := "searchServed", fn := fun _ => fun
  | [d] => { results := [.lit (.bool false)], args := [d] }
  | _ => none }
def SearchServedWrongFalsely : Prop := searchServedRow.holds Tryd.pinned (OpenSpec.ofChange searchServedWrong)

/-- 'assayerlaw17.SearchTurned': WHATEVER THE INPUT: true; the input reads as it did. -/
def searchTurnedSpec : ChangeSpec := { name := "searchTurned", fn := fun _ => fun
  | [d] => { results := [.lit (.bool true)], args := [d] }
  | _ => none }
def searchTurnedRow : OpenClaim := { program := "ytgfljbplccekcaadoor", sum := "3bc7b5ac5494dadcadb95ca21624b374270507578263296688d92f10c77725c6", func := "assayer/assayerlaw17.SearchTurned", spec := "searchTurned", inPlace := ["maps.clone", "internal/abi.NoEscape"], unfollowed := true, recurses := true, named := ["math/bits.deBruijn64tab", "internal/strconv.uint64pow10", "math/bits.deBruijn32tab"], plainKeys := false, apart := false, laid := [("math/bits.deBruijn32tab", laid_math_bits_deBruijn32tab), ("math/bits.deBruijn64tab", laid_math_bits_deBruijn64tab), ("internal/strconv.uint64pow10", laid_internal_strconv_uint64pow10)] }
def SearchTurnedSaid : Prop := searchTurnedRow.holds Tryd.pinned (OpenSpec.ofChange searchTurnedSpec)

/-- ITS FALSE NEIGHBOUR: 'it returns false'. Refute it at one input. -/
def searchTurnedWrong : ChangeSpec := { name := "searchTurned", fn := fun _ => fun
  | [d] => { results := [.lit (.bool false)], args := [d] }
  | _ => none }
def SearchTurnedWrongFalsely : Prop := searchTurnedRow.holds Tryd.pinned (OpenSpec.ofChange searchTurnedWrong)

/-- 'assayerlaw07.CompsTells': WHATEVER THE INPUT: true; the input reads as it did. -/
def compsTellsSpec : ChangeSpec := { name := "compsTells", fn := fun _ => fun
  | [d1, d2, d3] => { results := [.lit (.bool true)], args := [d1, d2, d3] }
  | _ => none }
def compsTellsRow : OpenClaim := { program := "ytgfljbplccekcaadoor", sum := "3bc7b5ac5494dadcadb95ca21624b374270507578263296688d92f10c77725c6", func := "assayer/assayerlaw07.CompsTells", spec := "compsTells", unfollowed := true, recurses := true, named := ["math/bits.deBruijn64tab"], plainKeys := false, apart := false, laid := [("math/bits.deBruijn64tab", laid_math_bits_deBruijn64tab)] }
def CompsTellsSaid : Prop := compsTellsRow.holds Tryd.pinned (OpenSpec.ofChange compsTellsSpec)

/-- ITS FALSE NEIGHBOUR: 'it returns false'. Refute it at one input. -/
def compsTellsWrong : ChangeSpec := { name := "compsTells", fn := fun _ => fun
  | [d1, d2, d3] => { results := [.lit (.bool false)], args := [d1, d2, d3] }
  | _ => none }
def CompsTellsWrongFalsely : Prop := compsTellsRow.holds Tryd.pinned (OpenSpec.ofChange compsTellsWrong)

/-- 'assayerlaw07.CompsParts': WHATEVER THE INPUT: true; the input reads as it did. -/
def compsPartsSpec : ChangeSpec := { name := "compsParts", fn := fun _ => fun
  | [d1, d2, d3] => { results := [.lit (.bool true)], args := [d1, d2, d3] }
  | _ => none }
def compsPartsRow : OpenClaim := { program := "ytgfljbplccekcaadoor", sum := "3bc7b5ac5494dadcadb95ca21624b374270507578263296688d92f10c77725c6", func := "assayer/assayerlaw07.CompsParts", spec := "compsParts", unfollowed := true, recurses := true, named := ["math/bits.deBruijn64tab"], plainKeys := false, apart := false, laid := [("math/bits.deBruijn64tab", laid_math_bits_deBruijn64tab)] }
def CompsPartsSaid : Prop := compsPartsRow.holds Tryd.pinned (OpenSpec.ofChange compsPartsSpec)

/-- ITS FALSE NEIGHBOUR: 'it returns false'. Refute it at one input. -/
def compsPartsWrong : ChangeSpec := { name := "compsParts", fn := fun _ => fun
  | [d1, d2, d3] => { results := [.lit (.bool false)], args := [d1, d2, d3] }
  | _ => none }
def CompsPartsWrongFalsely : Prop := compsPartsRow.holds Tryd.pinned (OpenSpec.ofChange compsPartsWrong)

/-- 'assayerlaw07.CompsRing': WHATEVER THE INPUT: true; the input reads as it did. -/
def compsRingSpec : ChangeSpec := { name := "compsRing", fn := fun _ => fun
  | [d1, d2] => { results := [.lit (.bool true)], args := [d1, d2] }
  | _ => none }
def compsRingRow : OpenClaim := { program := "ytgfljbplccekcaadoor", sum := "3bc7b5ac5494dadcadb95ca21624b374270507578263296688d92f10c77725c6", func := "assayer/assayerlaw07.CompsRing", spec := "compsRing", unfollowed := true, recurses := true, named := ["math/bits.deBruijn64tab"], plainKeys := false, apart := false, laid := [("math/bits.deBruijn64tab", laid_math_bits_deBruijn64tab)] }
def CompsRingSaid : Prop := compsRingRow.holds Tryd.pinned (OpenSpec.ofChange compsRingSpec)

/-- ITS FALSE NEIGHBOUR: 'it returns false'. Refute it at one input. -/
def compsRingWrong : ChangeSpec := { name := "compsRing", fn := fun _ => fun
  | [d1, d2] => { results := [.lit (.bool false)], args := [d1, d2] }
  | _ => none }
def CompsRingWrongFalsely : Prop := compsRingRow.holds Tryd.pinned (OpenSpec.ofChange compsRingWrong)

/-- 'assayerlaw07.CompsNobody': WHATEVER THE INPUT: true; the input reads as it did. -/
def compsNobodySpec : ChangeSpec := { name := "compsNobody", fn := fun _ => fun
  | [d] => { results := [.lit (.bool true)], args := [d] }
  | _ => none }
def compsNobodyRow : OpenClaim := { program := "ytgfljbplccekcaadoor", sum := "3bc7b5ac5494dadcadb95ca21624b374270507578263296688d92f10c77725c6", func := "assayer/assayerlaw07.CompsNobody", spec := "compsNobody", unfollowed := true, recurses := true, named := ["math/bits.deBruijn64tab"], plainKeys := false, apart := false, laid := [("math/bits.deBruijn64tab", laid_math_bits_deBruijn64tab)] }
def CompsNobodySaid : Prop := compsNobodyRow.holds Tryd.pinned (OpenSpec.ofChange compsNobodySpec)

/-- ITS FALSE NEIGHBOUR: 'it returns false'. Refute it at one input. -/
def compsNobodyWrong : ChangeSpec := { name := "compsNobody", fn := fun _ => fun
  | [d] => { results := [.lit (.bool false)], args := [d] }
  | _ => none }
def CompsNobodyWrongFalsely : Prop := compsNobodyRow.holds Tryd.pinned (OpenSpec.ofChange compsNobodyWrong)

/-- 'assayerlaw12.RegsRises': WHATEVER THE INPUT: true; the input reads as it did. -/
def regsRisesSpec : ChangeSpec := { name := "regsRises", fn := fun _ => fun
  | [d] => { results := [.lit (.bool true)], args := [d] }
  | _ => none }
def regsRisesRow : OpenClaim := { program := "ytgfljbplccekcaadoor", sum := "3bc7b5ac5494dadcadb95ca21624b374270507578263296688d92f10c77725c6", func := "assayer/assayerlaw12.RegsRises", spec := "regsRises", unfollowed := true, recurses := true, named := ["math/bits.deBruijn64tab"], plainKeys := false, apart := false, laid := [("math/bits.deBruijn64tab", laid_math_bits_deBruijn64tab)] }
def RegsRisesSaid : Prop := regsRisesRow.holds Tryd.pinned (OpenSpec.ofChange regsRisesSpec)

/-- ITS FALSE NEIGHBOUR: 'it returns false'. Refute it at one input. -/
def regsRisesWrong : ChangeSpec := { name := "regsRises", fn := fun _ => fun
  | [d] => { results := [.lit (.bool false)], args := [d] }
  | _ => none }
def RegsRisesWrongFalsely : Prop := regsRisesRow.holds Tryd.pinned (OpenSpec.ofChange regsRisesWrong)

/-- 'assayerlaw07.CompsTurned': WHATEVER THE INPUT: true; the input reads as it did. -/
def compsTurnedSpec : ChangeSpec := { name := "compsTurned", fn := fun _ => fun
  | [d1, d2, d3] => { results := [.lit (.bool true)], args := [d1, d2, d3] }
  | _ => none }
def compsTurnedRow : OpenClaim := { program := "ytgfljbplccekcaadoor", sum := "3bc7b5ac5494dadcadb95ca21624b374270507578263296688d92f10c77725c6", func := "assayer/assayerlaw07.CompsTurned", spec := "compsTurned", unfollowed := true, recurses := true, named := ["math/bits.deBruijn64tab"], plainKeys := false, apart := false, laid := [("math/bits.deBruijn64tab", laid_math_bits_deBruijn64tab)] }
def CompsTurnedSaid : Prop := compsTurnedRow.holds Tryd.pinned (OpenSpec.ofChange compsTurnedSpec)

/-- ITS FALSE NEIGHBOUR: 'it returns false'. Refute it at one input. -/
def compsTurnedWrong : ChangeSpec := { name := "compsTurned", fn := fun _ => fun
  | [d1, d2, d3] => { results := [.lit (.bool false)], args := [d1, d2, d3] }
  | _ => none }
def CompsTurnedWrongFalsely : Prop := compsTurnedRow.holds Tryd.pinned (OpenSpec.ofChange compsTurnedWrong)

/-- 'assayerlaw12.RegsServed': WHATEVER THE INPUT: true; the input reads as it did. -/
def regsServedSpec : ChangeSpec := { name := "regsServed", fn := fun _ => fun
  | [d] => { results := [.lit (.bool true)], args := [d] }
  | _ => none }
def regsServedRow : OpenClaim := { program := "ytgfljbplccekcaadoor", sum := "3bc7b5ac5494dadcadb95ca21624b374270507578263296688d92f10c77725c6", func := "assayer/assayerlaw12.RegsServed", spec := "regsServed", unfollowed := true, recurses := true, named := ["math/bits.deBruijn64tab"], plainKeys := false, apart := false, laid := [("math/bits.deBruijn64tab", laid_math_bits_deBruijn64tab)] }
def RegsServedSaid : Prop := regsServedRow.holds Tryd.pinned (OpenSpec.ofChange regsServedSpec)

/-- ITS FALSE NEIGHBOUR: 'it returns false'. Refute it at one input. -/
def regsServedWrong : ChangeSpec := { name := "regsServed", fn := fun _ => fun
  | [d] => { results := [.lit (.bool false)], args := [d] }
  | _ => none }
def RegsServedWrongFalsely : Prop := regsServedRow.holds Tryd.pinned (OpenSpec.ofChange regsServedWrong)

/-- 'assayerlaw12.RegsTwice': WHATEVER THE INPUT: true; the input reads as it did. -/
def regsTwiceSpec : ChangeSpec := { name := "regsTwice", fn := fun _ => fun
  | [d1, d2] => { results := [.lit (.bool true)], args := [d1, d2] }
  | _ => none }
def regsTwiceRow : OpenClaim := { program := "ytgfljbplccekcaadoor", sum := "3bc7b5ac5494dadcadb95ca21624b374270507578263296688d92f10c77725c6", func := "assayer/assayerlaw12.RegsTwice", spec := "regsTwice", unfollowed := true, recurses := true, named := ["math/bits.deBruijn64tab"], plainKeys := false, apart := false, laid := [("math/bits.deBruijn64tab", laid_math_bits_deBruijn64tab)] }
def RegsTwiceSaid : Prop := regsTwiceRow.holds Tryd.pinned (OpenSpec.ofChange regsTwiceSpec)

/-- ITS FALSE NEIGHBOUR: 'it returns false'. Refute it at one input. -/
def regsTwiceWrong : ChangeSpec := { name := "regsTwice", fn := fun _ => fun
  | [d1, d2] => { results := [.lit (.bool false)], args := [d1, d2] }
  | _ => none }
def RegsTwiceWrongFalsely : Prop := regsTwiceRow.holds Tryd.pinned (OpenSpec.ofChange regsTwiceWrong)

/-- 'assayerlaw12.RegsNobody': WHATEVER THE INPUT: true; the input reads as it did. -/
def regsNobodySpec : ChangeSpec := { name := "regsNobody", fn := fun _ => fun
  | [d] => { results := [.lit (.bool true)], args := [d] }
  | _ => none }
def regsNobodyRow : OpenClaim := { program := "ytgfljbplccekcaadoor", sum := "3bc7b5ac5494dadcadb95ca21624b374270507578263296688d92f10c77725c6", func := "assayer/assayerlaw12.RegsNobody", spec := "regsNobody", unfollowed := true, recurses := true, named := ["math/bits.deBruijn64tab"], plainKeys := false, apart := false, laid := [("math/bits.deBruijn64tab", laid_math_bits_deBruijn64tab)] }
def RegsNobodySaid : Prop := regsNobodyRow.holds Tryd.pinned (OpenSpec.ofChange regsNobodySpec)

/-- ITS FALSE NEIGHBOUR: 'it returns false'. Refute it at one input. -/
def regsNobodyWrong : ChangeSpec := { name := "regsNobody", fn := fun _ => fun
  | [d] => { results := [.lit (.bool false)], args := [d] }
  | _ => none }
def RegsNobodyWrongFalsely : Prop := regsNobodyRow.holds Tryd.pinned (OpenSpec.ofChange regsNobodyWrong)

/- THE SECOND FORM. 'bulk': how many values and letters a reading holds, each counted each time it is reached (what is shared counts as often as it is met; a slice's spare places count too). A statement '..UptoSaid' is the law's where the arguments, and the package variables that the reading takes, are together of bulk at most 1048576: NARROWER than '..Said'. Prove '..Said' where nothing that the law and all that it calls make is longer than what came in: it says more and counts as full. Else prove '..UptoSaid'. A law counts once. -/
mutual
def uptoBulk {H : Type} : DataW H → Nat
  | .lit (.string bytes) => bytes.length + 1
  | .lit _ => 1
  | .nil => 1
  | .ptr d => uptoBulk d + 1
  | .slice elems spare => uptoBulkAll elems + uptoBulkAll spare + 1
  | .agg parts => uptoBulkAll parts + 1
  | .iface _ d => uptoBulk d + 1
  | .map entries => uptoBulkEntries entries + 1
  | .held _ => 1
def uptoBulkAll {H : Type} : List (DataW H) → Nat
  | [] => 0
  | d :: r => uptoBulk d + uptoBulkAll r
def uptoBulkEntries {H : Type} : List (Lit × DataW H) → Nat
  | [] => 0
  | x :: r => uptoBulkEntry x + uptoBulkEntries r
def uptoBulkEntry {H : Type} : Lit × DataW H → Nat
  | (.string bytes, d) => bytes.length + uptoBulk d + 1
  | (_, d) => uptoBulk d + 1
 end
def uptoSmall : (H : Type) → List (DataW H) → Bool := fun _ ds => decide (uptoBulkAll ds ≤ 1048576)
def OpenSpec.upto (s : _root_.Go.ChangeSpec) : _root_.Go.OpenSpec := { _root_.Go.OpenSpec.ofChange s with cond := some uptoSmall }

/-- 'assayerlaw17.SearchNone', WHERE WHAT IT READS IS OF BULK AT MOST 1048576: true; the input reads as it did. -/
def searchNoneUptoRow : OpenClaim := { program := "ytgfljbplccekcaadoor", sum := "3bc7b5ac5494dadcadb95ca21624b374270507578263296688d92f10c77725c6", func := "assayer/assayerlaw17.SearchNone", spec := "searchNone", inPlace := ["maps.clone", "internal/abi.NoEscape"], unfollowed := true, recurses := true, named := ["math/bits.deBruijn64tab", "internal/strconv.uint64pow10", "math/bits.deBruijn32tab"], plainKeys := false, apart := false, laid := [("math/bits.deBruijn32tab", laid_math_bits_deBruijn32tab), ("math/bits.deBruijn64tab", laid_math_bits_deBruijn64tab), ("internal/strconv.uint64pow10", laid_internal_strconv_uint64pow10)], narrowed := true }
def SearchNoneUptoSaid : Prop := searchNoneUptoRow.holds Tryd.pinned (OpenSpec.upto searchNoneSpec)

/-- 'assayerlaw17.SearchYes', WHERE WHAT IT READS IS OF BULK AT MOST 1048576: true; the input reads as it did. -/
def searchYesUptoRow : OpenClaim := { program := "ytgfljbplccekcaadoor", sum := "3bc7b5ac5494dadcadb95ca21624b374270507578263296688d92f10c77725c6", func := "assayer/assayerlaw17.SearchYes", spec := "searchYes", inPlace := ["maps.clone", "internal/abi.NoEscape"], unfollowed := true, recurses := true, named := ["math/bits.deBruijn64tab", "internal/strconv.uint64pow10", "math/bits.deBruijn32tab"], plainKeys := false, apart := false, laid := [("math/bits.deBruijn32tab", laid_math_bits_deBruijn32tab), ("math/bits.deBruijn64tab", laid_math_bits_deBruijn64tab), ("internal/strconv.uint64pow10", laid_internal_strconv_uint64pow10)], narrowed := true }
def SearchYesUptoSaid : Prop := searchYesUptoRow.holds Tryd.pinned (OpenSpec.upto searchYesSpec)

/-- 'assayerlaw17.SearchServed', WHERE WHAT IT READS IS OF BULK AT MOST 1048576: true; the input reads as it did. -/
def searchServedUptoRow : OpenClaim := { program := "ytgfljbplccekcaadoor", sum := "3bc7b5ac5494dadcadb95ca21624b374270507578263296688d92f10c77725c6", func := "assayer/assayerlaw17.SearchServed", spec := "searchServed", inPlace := ["maps.clone", "internal/abi.NoEscape"], unfollowed := true, recurses := true, named := ["math/bits.deBruijn64tab", "internal/strconv.uint64pow10", "math/bits.deBruijn32tab"], plainKeys := false, apart := false, laid := [("math/bits.deBruijn32tab", laid_math_bits_deBruijn32tab), ("math/bits.deBruijn64tab", laid_math_bits_deBruijn64tab), ("internal/strconv.uint64pow10", laid_internal_strconv_uint64pow10)], narrowed := true }
def SearchServedUptoSaid : Prop := searchServedUptoRow.holds Tryd.pinned (OpenSpec.upto searchServedSpec)

/-- 'assayerlaw17.SearchTurned', WHERE WHAT IT READS IS OF BULK AT MOST 1048576: true; the input reads as it did. -/
def searchTurnedUptoRow : OpenClaim := { program := "ytgfljbplccekcaadoor", sum := "3bc7b5ac5494dadcadb95ca21624b374270507578263296688d92f10c77725c6", func := "assayer/assayerlaw17.SearchTurned", spec := "searchTurned", inPlace := ["maps.clone", "internal/abi.NoEscape"], unfollowed := true, recurses := true, named := ["math/bits.deBruijn64tab", "internal/strconv.uint64pow10", "math/bits.deBruijn32tab"], plainKeys := false, apart := false, laid := [("math/bits.deBruijn32tab", laid_math_bits_deBruijn32tab), ("math/bits.deBruijn64tab", laid_math_bits_deBruijn64tab), ("internal/strconv.uint64pow10", laid_internal_strconv_uint64pow10)], narrowed := true }
def SearchTurnedUptoSaid : Prop := searchTurnedUptoRow.holds Tryd.pinned (OpenSpec.upto searchTurnedSpec)

/-- 'assayerlaw07.CompsTells', WHERE WHAT IT READS IS OF BULK AT MOST 1048576: true; the input reads as it did. -/
def compsTellsUptoRow : OpenClaim := { program := "ytgfljbplccekcaadoor", sum := "3bc7b5ac5494dadcadb95ca21624b374270507578263296688d92f10c77725c6", func := "assayer/assayerlaw07.CompsTells", spec := "compsTells", unfollowed := true, recurses := true, named := ["math/bits.deBruijn64tab"], plainKeys := false, apart := false, laid := [("math/bits.deBruijn64tab", laid_math_bits_deBruijn64tab)], narrowed := true }
def CompsTellsUptoSaid : Prop := compsTellsUptoRow.holds Tryd.pinned (OpenSpec.upto compsTellsSpec)

/-- 'assayerlaw07.CompsParts', WHERE WHAT IT READS IS OF BULK AT MOST 1048576: true; the input reads as it did. -/
def compsPartsUptoRow : OpenClaim := { program := "ytgfljbplccekcaadoor", sum := "3bc7b5ac5494dadcadb95ca21624b374270507578263296688d92f10c77725c6", func := "assayer/assayerlaw07.CompsParts", spec := "compsParts", unfollowed := true, recurses := true, named := ["math/bits.deBruijn64tab"], plainKeys := false, apart := false, laid := [("math/bits.deBruijn64tab", laid_math_bits_deBruijn64tab)], narrowed := true }
def CompsPartsUptoSaid : Prop := compsPartsUptoRow.holds Tryd.pinned (OpenSpec.upto compsPartsSpec)

/-- 'assayerlaw07.CompsRing', WHERE WHAT IT READS IS OF BULK AT MOST 1048576: true; the input reads as it did. -/
def compsRingUptoRow : OpenClaim := { program := "ytgfljbplccekcaadoor", sum := "3bc7b5ac5494dadcadb95ca21624b374270507578263296688d92f10c77725c6", func := "assayer/assayerlaw07.CompsRing", spec := "compsRing", unfollowed := true, recurses := true, named := ["math/bits.deBruijn64tab"], plainKeys := false, apart := false, laid := [("math/bits.deBruijn64tab", laid_math_bits_deBruijn64tab)], narrowed := true }
def CompsRingUptoSaid : Prop := compsRingUptoRow.holds Tryd.pinned (OpenSpec.upto compsRingSpec)

/-- 'assayerlaw07.CompsNobody', WHERE WHAT IT READS IS OF BULK AT MOST 1048576: true; the input reads as it did. -/
def compsNobodyUptoRow : OpenClaim := { program := "ytgfljbplccekcaadoor", sum := "3bc7b5ac5494dadcadb95ca21624b374270507578263296688d92f10c77725c6", func := "assayer/assayerlaw07.CompsNobody", spec := "compsNobody", unfollowed := true, recurses := true, named := ["math/bits.deBruijn64tab"], plainKeys := false, apart := false, laid := [("math/bits.deBruijn64tab", laid_math_bits_deBruijn64tab)], narrowed := true }
def CompsNobodyUptoSaid : Prop := compsNobodyUptoRow.holds Tryd.pinned (OpenSpec.upto compsNobodySpec)

/-- 'assayerlaw12.RegsRises', WHERE WHAT IT READS IS OF BULK AT MOST 1048576: true; the input reads as it did. -/
def regsRisesUptoRow : OpenClaim := { program := "ytgfljbplccekcaadoor", sum := "3bc7b5ac5494dadcadb95ca21624b374270507578263296688d92f10c77725c6", func := "assayer/assayerlaw12.RegsRises", spec := "regsRises", unfollowed := true, recurses := true, named := ["math/bits.deBruijn64tab"], plainKeys := false, apart := false, laid := [("math/bits.deBruijn64tab", laid_math_bits_deBruijn64tab)], narrowed := true }
def RegsRisesUptoSaid : Prop := regsRisesUptoRow.holds Tryd.pinned (OpenSpec.upto regsRisesSpec)

/-- 'assayerlaw07.CompsTurned', WHERE WHAT IT READS IS OF BULK AT MOST 1048576: true; the input reads as it did. -/
def compsTurnedUptoRow : OpenClaim := { program := "ytgfljbplccekcaadoor", sum := "3bc7b5ac5494dadcadb95ca21624b374270507578263296688d92f10c77725c6", func := "assayer/assayerlaw07.CompsTurned", spec := "compsTurned", unfollowed := true, recurses := true, named := ["math/bits.deBruijn64tab"], plainKeys := false, apart := false, laid := [("math/bits.deBruijn64tab", laid_math_bits_deBruijn64tab)], narrowed := true }
def CompsTurnedUptoSaid : Prop := compsTurnedUptoRow.holds Tryd.pinned (OpenSpec.upto compsTurnedSpec)

/-- 'assayerlaw12.RegsServed', WHERE WHAT IT READS IS OF BULK AT MOST 1048576: true; the input reads as it did. -/
def regsServedUptoRow : OpenClaim := { program := "ytgfljbplccekcaadoor", sum := "3bc7b5ac5494dadcadb95ca21624b374270507578263296688d92f10c77725c6", func := "assayer/assayerlaw12.RegsServed", spec := "regsServed", unfollowed := true, recurses := true, named := ["math/bits.deBruijn64tab"], plainKeys := false, apart := false, laid := [("math/bits.deBruijn64tab", laid_math_bits_deBruijn64tab)], narrowed := true }
def RegsServedUptoSaid : Prop := regsServedUptoRow.holds Tryd.pinned (OpenSpec.upto regsServedSpec)

/-- 'assayerlaw12.RegsTwice', WHERE WHAT IT READS IS OF BULK AT MOST 1048576: true; the input reads as it did. -/
def regsTwiceUptoRow : OpenClaim := { program := "ytgfljbplccekcaadoor", sum := "3bc7b5ac5494dadcadb95ca21624b374270507578263296688d92f10c77725c6", func := "assayer/assayerlaw12.RegsTwice", spec := "regsTwice", unfollowed := true, recurses := true, named := ["math/bits.deBruijn64tab"], plainKeys := false, apart := false, laid := [("math/bits.deBruijn64tab", laid_math_bits_deBruijn64tab)], narrowed := true }
def RegsTwiceUptoSaid : Prop := regsTwiceUptoRow.holds Tryd.pinned (OpenSpec.upto regsTwiceSpec)

/-- 'assayerlaw12.RegsNobody', WHERE WHAT IT READS IS OF BULK AT MOST 1048576: true; the input reads as it did. -/
def regsNobodyUptoRow : OpenClaim := { program := "ytgfljbplccekcaadoor", sum := "3bc7b5ac5494dadcadb95ca21624b374270507578263296688d92f10c77725c6", func := "assayer/assayerlaw12.RegsNobody", spec := "regsNobody", unfollowed := true, recurses := true, named := ["math/bits.deBruijn64tab"], plainKeys := false, apart := false, laid := [("math/bits.deBruijn64tab", laid_math_bits_deBruijn64tab)], narrowed := true }
def RegsNobodyUptoSaid : Prop := regsNobodyUptoRow.holds Tryd.pinned (OpenSpec.upto regsNobodySpec)

end Rows
end Go.Proofs.YtgfljbplccekcaaDoor
