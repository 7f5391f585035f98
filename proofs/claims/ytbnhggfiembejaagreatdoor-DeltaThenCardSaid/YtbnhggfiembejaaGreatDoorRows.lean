/-
  NARROWER THAN 'FOR EVERY INPUT', by the rows' own cells (each row's printed sentence says how): CutSpans: laid · CutJoins: laid · DeltaOf: laid · DeltaApplies: laid · DeltaThen: laid · DeltaWay: laid · CutSplits: laid · CutBack: laid · DiffIs: laid · DiffIdle: laid · DiffLaws: laid.
  DERIVED. THE GIVEN ROWS OF THIS SEAT. 11 by the template 'for every input the law returns true; each argument reads behind the call as it read before'; 0 by the template 'total and deterministic' (their statements: YtbnhggfiembejaaGreatDoorTotals.lean).
  GIVEN WITH THE SEED: the statements are not yours to turn. If you find one false, say at which input.
  Laid BY PROGRAM, IN A SANDBOX (cutbox-rows.mjs): the forced cells as the released guide's own fill.sh prints them over the translation fa8884fa9c89abc5… (all of the seat's roots in one cut). By AI agents, Wed Nov 11 2026. No macro, syntax, notation, axiom, sorry.
-/
import Derived.Test.YtbnhggfiembejaaGreatDoorChecked
import GoSem.Claim
import GoSem.ClaimJoined
import GoSem.ClaimMapViews
import Derived.JoinedTies
import Derived.KernelRfl
namespace Go.Proofs.YtbnhggfiembejaaGreatDoor
/- THE CELL 'sum', in the pinned program and in every row, IS THE sha256 OF THE DUMP (.gsa) THAT YtbnhggfiembejaaGreatDoorProg.lean LOADS. Nothing in Lean hashes anything: it is a label: what it is worth is what the hold of that sum in a sandbox is worth. -/
noncomputable def Tryz.pinned : Pinned := { name := "ytbnhggfiembejaagreatdoor", sum := "fa8884fa9c89abc582978f83321db27a2daa35a5771b0c502e7286821e029ecb", checked := Tryz.checked }
namespace Rows
def none {H : Type} : Left H := { results := [], args := [] }

/- WHAT THE LISTED PACKAGE-LEVEL VARIABLES READ AS WHEN THE CALL BEGINS. Each datum BY PROGRAM (the guide's laid-datum.mjs) off the statement by which the dump's own 'gosem.cut.vars' lays the variable. In a bare row this is a premise. The card (YtbnhggfiembejaaGreatDoorCards.lean) ties it to the program's text. -/
def laid_math_bits_deBruijn32tab {H : Type} : DataW H := .agg [.lit (.int .u8 0), .lit (.int .u8 1), .lit (.int .u8 28), .lit (.int .u8 2), .lit (.int .u8 29), .lit (.int .u8 14), .lit (.int .u8 24), .lit (.int .u8 3), .lit (.int .u8 30), .lit (.int .u8 22), .lit (.int .u8 20), .lit (.int .u8 15), .lit (.int .u8 25), .lit (.int .u8 17), .lit (.int .u8 4), .lit (.int .u8 8), .lit (.int .u8 31), .lit (.int .u8 27), .lit (.int .u8 13), .lit (.int .u8 23), .lit (.int .u8 21), .lit (.int .u8 19), .lit (.int .u8 16), .lit (.int .u8 7), .lit (.int .u8 26), .lit (.int .u8 12), .lit (.int .u8 18), .lit (.int .u8 6), .lit (.int .u8 11), .lit (.int .u8 5), .lit (.int .u8 10), .lit (.int .u8 9)]
def laid_math_bits_deBruijn64tab {H : Type} : DataW H := .agg [.lit (.int .u8 0), .lit (.int .u8 1), .lit (.int .u8 56), .lit (.int .u8 2), .lit (.int .u8 57), .lit (.int .u8 49), .lit (.int .u8 28), .lit (.int .u8 3), .lit (.int .u8 61), .lit (.int .u8 58), .lit (.int .u8 42), .lit (.int .u8 50), .lit (.int .u8 38), .lit (.int .u8 29), .lit (.int .u8 17), .lit (.int .u8 4), .lit (.int .u8 62), .lit (.int .u8 47), .lit (.int .u8 59), .lit (.int .u8 36), .lit (.int .u8 45), .lit (.int .u8 43), .lit (.int .u8 51), .lit (.int .u8 22), .lit (.int .u8 53), .lit (.int .u8 39), .lit (.int .u8 33), .lit (.int .u8 30), .lit (.int .u8 24), .lit (.int .u8 18), .lit (.int .u8 12), .lit (.int .u8 5), .lit (.int .u8 63), .lit (.int .u8 55), .lit (.int .u8 48), .lit (.int .u8 27), .lit (.int .u8 60), .lit (.int .u8 41), .lit (.int .u8 37), .lit (.int .u8 16), .lit (.int .u8 46), .lit (.int .u8 35), .lit (.int .u8 44), .lit (.int .u8 21), .lit (.int .u8 52), .lit (.int .u8 32), .lit (.int .u8 23), .lit (.int .u8 11), .lit (.int .u8 54), .lit (.int .u8 26), .lit (.int .u8 40), .lit (.int .u8 15), .lit (.int .u8 34), .lit (.int .u8 20), .lit (.int .u8 31), .lit (.int .u8 10), .lit (.int .u8 25), .lit (.int .u8 14), .lit (.int .u8 19), .lit (.int .u8 9), .lit (.int .u8 13), .lit (.int .u8 8), .lit (.int .u8 7), .lit (.int .u8 6)]
def laid_internal_strconv_uint64pow10 {H : Type} : DataW H := .agg [.lit (.int .u64 1), .lit (.int .u64 10), .lit (.int .u64 100), .lit (.int .u64 1000), .lit (.int .u64 10000), .lit (.int .u64 100000), .lit (.int .u64 1000000), .lit (.int .u64 10000000), .lit (.int .u64 100000000), .lit (.int .u64 1000000000), .lit (.int .u64 10000000000), .lit (.int .u64 100000000000), .lit (.int .u64 1000000000000), .lit (.int .u64 10000000000000), .lit (.int .u64 100000000000000), .lit (.int .u64 1000000000000000), .lit (.int .u64 10000000000000000), .lit (.int .u64 100000000000000000), .lit (.int .u64 1000000000000000000), .lit (.int .u64 10000000000000000000)]

/-- 'spunyarnlaw27.CutSpans': WHATEVER THE INPUT: true; the input reads as it did. -/
def cutSpansSpec : ChangeSpec := { name := "cutSpans", fn := fun _ => fun
  | [d1, d2, d3] => { results := [.lit (.bool true)], args := [d1, d2, d3] }
  | _ => none }
def cutSpansRow : OpenClaim := { program := "ytbnhggfiembejaagreatdoor", sum := "fa8884fa9c89abc582978f83321db27a2daa35a5771b0c502e7286821e029ecb", func := "spunyarn/spunyarnlaw27.CutSpans", spec := "cutSpans", inPlace := ["internal/bytealg.Compare", "sync/atomic.AddInt64", "internal/abi.NoEscape", "sync/atomic.LoadInt64"], unfollowed := true, recurses := true, named := ["internal/strconv.uint64pow10", "math/bits.deBruijn32tab", "math/bits.deBruijn64tab"], apart := false, laid := [("math/bits.deBruijn32tab", laid_math_bits_deBruijn32tab), ("math/bits.deBruijn64tab", laid_math_bits_deBruijn64tab), ("internal/strconv.uint64pow10", laid_internal_strconv_uint64pow10)] }
def CutSpansSaid : Prop := cutSpansRow.holds Tryz.pinned (OpenSpec.ofChange cutSpansSpec)

/-- ITS FALSE NEIGHBOUR: 'it returns false'. Refute it at one input. -/
def cutSpansWrong : ChangeSpec := { name := "cutSpans", fn := fun _ => fun
  | [d1, d2, d3] => { results := [.lit (.bool false)], args := [d1, d2, d3] }
  | _ => none }
def CutSpansWrongFalsely : Prop := cutSpansRow.holds Tryz.pinned (OpenSpec.ofChange cutSpansWrong)

/-- 'spunyarnlaw27.CutJoins': WHATEVER THE INPUT: true; the input reads as it did. -/
def cutJoinsSpec : ChangeSpec := { name := "cutJoins", fn := fun _ => fun
  | [d1, d2, d3] => { results := [.lit (.bool true)], args := [d1, d2, d3] }
  | _ => none }
def cutJoinsRow : OpenClaim := { program := "ytbnhggfiembejaagreatdoor", sum := "fa8884fa9c89abc582978f83321db27a2daa35a5771b0c502e7286821e029ecb", func := "spunyarn/spunyarnlaw27.CutJoins", spec := "cutJoins", inPlace := ["internal/bytealg.Compare", "sync/atomic.AddInt64", "internal/abi.NoEscape", "sync/atomic.LoadInt64"], unfollowed := true, recurses := true, named := ["internal/strconv.uint64pow10", "math/bits.deBruijn32tab", "math/bits.deBruijn64tab"], apart := false, laid := [("math/bits.deBruijn32tab", laid_math_bits_deBruijn32tab), ("math/bits.deBruijn64tab", laid_math_bits_deBruijn64tab), ("internal/strconv.uint64pow10", laid_internal_strconv_uint64pow10)] }
def CutJoinsSaid : Prop := cutJoinsRow.holds Tryz.pinned (OpenSpec.ofChange cutJoinsSpec)

/-- ITS FALSE NEIGHBOUR: 'it returns false'. Refute it at one input. -/
def cutJoinsWrong : ChangeSpec := { name := "cutJoins", fn := fun _ => fun
  | [d1, d2, d3] => { results := [.lit (.bool false)], args := [d1, d2, d3] }
  | _ => none }
def CutJoinsWrongFalsely : Prop := cutJoinsRow.holds Tryz.pinned (OpenSpec.ofChange cutJoinsWrong)

/-- 'spunyarnlaw29.DeltaOf': WHATEVER THE INPUT: true; the input reads as it did. -/
def deltaOfSpec : ChangeSpec := { name := "deltaOf", fn := fun _ => fun
  | [d1, d2] => { results := [.lit (.bool true)], args := [d1, d2] }
  | _ => none }
def deltaOfRow : OpenClaim := { program := "ytbnhggfiembejaagreatdoor", sum := "fa8884fa9c89abc582978f83321db27a2daa35a5771b0c502e7286821e029ecb", func := "spunyarn/spunyarnlaw29.DeltaOf", spec := "deltaOf", inPlace := ["internal/bytealg.Compare", "sync/atomic.AddInt64", "internal/abi.NoEscape"], unfollowed := true, recurses := true, named := ["internal/strconv.uint64pow10", "math/bits.deBruijn32tab", "math/bits.deBruijn64tab"], apart := false, laid := [("math/bits.deBruijn32tab", laid_math_bits_deBruijn32tab), ("math/bits.deBruijn64tab", laid_math_bits_deBruijn64tab), ("internal/strconv.uint64pow10", laid_internal_strconv_uint64pow10)] }
def DeltaOfSaid : Prop := deltaOfRow.holds Tryz.pinned (OpenSpec.ofChange deltaOfSpec)

/-- ITS FALSE NEIGHBOUR: 'it returns false'. Refute it at one input. -/
def deltaOfWrong : ChangeSpec := { name := "deltaOf", fn := fun _ => fun
  | [d1, d2] => { results := [.lit (.bool false)], args := [d1, d2] }
  | _ => none }
def DeltaOfWrongFalsely : Prop := deltaOfRow.holds Tryz.pinned (OpenSpec.ofChange deltaOfWrong)

/-- 'spunyarnlaw29.DeltaApplies': WHATEVER THE INPUT: true; the input reads as it did. -/
def deltaAppliesSpec : ChangeSpec := { name := "deltaApplies", fn := fun _ => fun
  | [d1, d2, d3] => { results := [.lit (.bool true)], args := [d1, d2, d3] }
  | _ => none }
def deltaAppliesRow : OpenClaim := { program := "ytbnhggfiembejaagreatdoor", sum := "fa8884fa9c89abc582978f83321db27a2daa35a5771b0c502e7286821e029ecb", func := "spunyarn/spunyarnlaw29.DeltaApplies", spec := "deltaApplies", inPlace := ["internal/bytealg.Compare", "sync/atomic.AddInt64", "internal/abi.NoEscape"], unfollowed := true, recurses := true, named := ["internal/strconv.uint64pow10", "math/bits.deBruijn32tab", "math/bits.deBruijn64tab"], apart := false, laid := [("math/bits.deBruijn32tab", laid_math_bits_deBruijn32tab), ("math/bits.deBruijn64tab", laid_math_bits_deBruijn64tab), ("internal/strconv.uint64pow10", laid_internal_strconv_uint64pow10)] }
def DeltaAppliesSaid : Prop := deltaAppliesRow.holds Tryz.pinned (OpenSpec.ofChange deltaAppliesSpec)

/-- ITS FALSE NEIGHBOUR: 'it returns false'. Refute it at one input. -/
def deltaAppliesWrong : ChangeSpec := { name := "deltaApplies", fn := fun _ => fun
  | [d1, d2, d3] => { results := [.lit (.bool false)], args := [d1, d2, d3] }
  | _ => none }
def DeltaAppliesWrongFalsely : Prop := deltaAppliesRow.holds Tryz.pinned (OpenSpec.ofChange deltaAppliesWrong)

/-- 'spunyarnlaw29.DeltaThen': WHATEVER THE INPUT: true; the input reads as it did. -/
def deltaThenSpec : ChangeSpec := { name := "deltaThen", fn := fun _ => fun
  | [d1, d2, d3] => { results := [.lit (.bool true)], args := [d1, d2, d3] }
  | _ => none }
def deltaThenRow : OpenClaim := { program := "ytbnhggfiembejaagreatdoor", sum := "fa8884fa9c89abc582978f83321db27a2daa35a5771b0c502e7286821e029ecb", func := "spunyarn/spunyarnlaw29.DeltaThen", spec := "deltaThen", inPlace := ["internal/bytealg.Compare", "sync/atomic.AddInt64", "internal/abi.NoEscape"], unfollowed := true, recurses := true, named := ["internal/strconv.uint64pow10", "math/bits.deBruijn32tab", "math/bits.deBruijn64tab"], apart := false, laid := [("math/bits.deBruijn32tab", laid_math_bits_deBruijn32tab), ("math/bits.deBruijn64tab", laid_math_bits_deBruijn64tab), ("internal/strconv.uint64pow10", laid_internal_strconv_uint64pow10)] }
def DeltaThenSaid : Prop := deltaThenRow.holds Tryz.pinned (OpenSpec.ofChange deltaThenSpec)

/-- ITS FALSE NEIGHBOUR: 'it returns false'. Refute it at one input. -/
def deltaThenWrong : ChangeSpec := { name := "deltaThen", fn := fun _ => fun
  | [d1, d2, d3] => { results := [.lit (.bool false)], args := [d1, d2, d3] }
  | _ => none }
def DeltaThenWrongFalsely : Prop := deltaThenRow.holds Tryz.pinned (OpenSpec.ofChange deltaThenWrong)

/-- 'spunyarnlaw29.DeltaWay': WHATEVER THE INPUT: true; the input reads as it did. -/
def deltaWaySpec : ChangeSpec := { name := "deltaWay", fn := fun _ => fun
  | [d1, d2, d3] => { results := [.lit (.bool true)], args := [d1, d2, d3] }
  | _ => none }
def deltaWayRow : OpenClaim := { program := "ytbnhggfiembejaagreatdoor", sum := "fa8884fa9c89abc582978f83321db27a2daa35a5771b0c502e7286821e029ecb", func := "spunyarn/spunyarnlaw29.DeltaWay", spec := "deltaWay", inPlace := ["internal/bytealg.Compare", "sync/atomic.AddInt64", "internal/abi.NoEscape"], unfollowed := true, recurses := true, named := ["internal/strconv.uint64pow10", "math/bits.deBruijn32tab", "math/bits.deBruijn64tab"], apart := false, laid := [("math/bits.deBruijn32tab", laid_math_bits_deBruijn32tab), ("math/bits.deBruijn64tab", laid_math_bits_deBruijn64tab), ("internal/strconv.uint64pow10", laid_internal_strconv_uint64pow10)] }
def DeltaWaySaid : Prop := deltaWayRow.holds Tryz.pinned (OpenSpec.ofChange deltaWaySpec)

/-- ITS FALSE NEIGHBOUR: 'it returns false'. Refute it at one input. -/
def deltaWayWrong : ChangeSpec := { name := "deltaWay", fn := fun _ => fun
  | [d1, d2, d3] => { results := [.lit (.bool false)], args := [d1, d2, d3] }
  | _ => none }
def DeltaWayWrongFalsely : Prop := deltaWayRow.holds Tryz.pinned (OpenSpec.ofChange deltaWayWrong)

/-- 'spunyarnlaw27.CutSplits': WHATEVER THE INPUT: true; the input reads as it did. -/
def cutSplitsSpec : ChangeSpec := { name := "cutSplits", fn := fun _ => fun
  | [d1, d2, d3] => { results := [.lit (.bool true)], args := [d1, d2, d3] }
  | _ => none }
def cutSplitsRow : OpenClaim := { program := "ytbnhggfiembejaagreatdoor", sum := "fa8884fa9c89abc582978f83321db27a2daa35a5771b0c502e7286821e029ecb", func := "spunyarn/spunyarnlaw27.CutSplits", spec := "cutSplits", inPlace := ["internal/bytealg.Compare", "sync/atomic.AddInt64", "internal/abi.NoEscape", "sync/atomic.LoadInt64"], unfollowed := true, recurses := true, named := ["internal/strconv.uint64pow10", "math/bits.deBruijn32tab", "math/bits.deBruijn64tab"], apart := false, laid := [("math/bits.deBruijn32tab", laid_math_bits_deBruijn32tab), ("math/bits.deBruijn64tab", laid_math_bits_deBruijn64tab), ("internal/strconv.uint64pow10", laid_internal_strconv_uint64pow10)] }
def CutSplitsSaid : Prop := cutSplitsRow.holds Tryz.pinned (OpenSpec.ofChange cutSplitsSpec)

/-- ITS FALSE NEIGHBOUR: 'it returns false'. Refute it at one input. -/
def cutSplitsWrong : ChangeSpec := { name := "cutSplits", fn := fun _ => fun
  | [d1, d2, d3] => { results := [.lit (.bool false)], args := [d1, d2, d3] }
  | _ => none }
def CutSplitsWrongFalsely : Prop := cutSplitsRow.holds Tryz.pinned (OpenSpec.ofChange cutSplitsWrong)

/-- 'spunyarnlaw27.CutBack': WHATEVER THE INPUT: true; the input reads as it did. -/
def cutBackSpec : ChangeSpec := { name := "cutBack", fn := fun _ => fun
  | [d1, d2] => { results := [.lit (.bool true)], args := [d1, d2] }
  | _ => none }
def cutBackRow : OpenClaim := { program := "ytbnhggfiembejaagreatdoor", sum := "fa8884fa9c89abc582978f83321db27a2daa35a5771b0c502e7286821e029ecb", func := "spunyarn/spunyarnlaw27.CutBack", spec := "cutBack", inPlace := ["internal/bytealg.Compare", "sync/atomic.AddInt64", "internal/abi.NoEscape"], unfollowed := true, recurses := true, named := ["internal/strconv.uint64pow10", "math/bits.deBruijn32tab", "math/bits.deBruijn64tab"], apart := false, laid := [("math/bits.deBruijn32tab", laid_math_bits_deBruijn32tab), ("math/bits.deBruijn64tab", laid_math_bits_deBruijn64tab), ("internal/strconv.uint64pow10", laid_internal_strconv_uint64pow10)] }
def CutBackSaid : Prop := cutBackRow.holds Tryz.pinned (OpenSpec.ofChange cutBackSpec)

/-- ITS FALSE NEIGHBOUR: 'it returns false'. Refute it at one input. -/
def cutBackWrong : ChangeSpec := { name := "cutBack", fn := fun _ => fun
  | [d1, d2] => { results := [.lit (.bool false)], args := [d1, d2] }
  | _ => none }
def CutBackWrongFalsely : Prop := cutBackRow.holds Tryz.pinned (OpenSpec.ofChange cutBackWrong)

/-- 'spunyarnlaw26.DiffIs': WHATEVER THE INPUT: true; the input reads as it did. -/
def diffIsSpec : ChangeSpec := { name := "diffIs", fn := fun _ => fun
  | [d1, d2, d3] => { results := [.lit (.bool true)], args := [d1, d2, d3] }
  | _ => none }
def diffIsRow : OpenClaim := { program := "ytbnhggfiembejaagreatdoor", sum := "fa8884fa9c89abc582978f83321db27a2daa35a5771b0c502e7286821e029ecb", func := "spunyarn/spunyarnlaw26.DiffIs", spec := "diffIs", inPlace := ["internal/bytealg.Compare", "sync/atomic.AddInt64", "internal/abi.NoEscape"], unfollowed := true, recurses := true, named := ["internal/strconv.uint64pow10", "math/bits.deBruijn32tab", "math/bits.deBruijn64tab"], apart := false, laid := [("math/bits.deBruijn32tab", laid_math_bits_deBruijn32tab), ("math/bits.deBruijn64tab", laid_math_bits_deBruijn64tab), ("internal/strconv.uint64pow10", laid_internal_strconv_uint64pow10)] }
def DiffIsSaid : Prop := diffIsRow.holds Tryz.pinned (OpenSpec.ofChange diffIsSpec)

/-- ITS FALSE NEIGHBOUR: 'it returns false'. Refute it at one input. -/
def diffIsWrong : ChangeSpec := { name := "diffIs", fn := fun _ => fun
  | [d1, d2, d3] => { results := [.lit (.bool false)], args := [d1, d2, d3] }
  | _ => none }
def DiffIsWrongFalsely : Prop := diffIsRow.holds Tryz.pinned (OpenSpec.ofChange diffIsWrong)

/-- 'spunyarnlaw26.DiffIdle': WHATEVER THE INPUT: true; the input reads as it did. -/
def diffIdleSpec : ChangeSpec := { name := "diffIdle", fn := fun _ => fun
  | [d1, d2] => { results := [.lit (.bool true)], args := [d1, d2] }
  | _ => none }
def diffIdleRow : OpenClaim := { program := "ytbnhggfiembejaagreatdoor", sum := "fa8884fa9c89abc582978f83321db27a2daa35a5771b0c502e7286821e029ecb", func := "spunyarn/spunyarnlaw26.DiffIdle", spec := "diffIdle", inPlace := ["internal/bytealg.Compare", "sync/atomic.AddInt64", "internal/abi.NoEscape", "sync/atomic.LoadInt64"], unfollowed := true, recurses := true, named := ["internal/strconv.uint64pow10", "math/bits.deBruijn32tab", "math/bits.deBruijn64tab"], apart := false, laid := [("math/bits.deBruijn32tab", laid_math_bits_deBruijn32tab), ("math/bits.deBruijn64tab", laid_math_bits_deBruijn64tab), ("internal/strconv.uint64pow10", laid_internal_strconv_uint64pow10)] }
def DiffIdleSaid : Prop := diffIdleRow.holds Tryz.pinned (OpenSpec.ofChange diffIdleSpec)

/-- ITS FALSE NEIGHBOUR: 'it returns false'. Refute it at one input. -/
def diffIdleWrong : ChangeSpec := { name := "diffIdle", fn := fun _ => fun
  | [d1, d2] => { results := [.lit (.bool false)], args := [d1, d2] }
  | _ => none }
def DiffIdleWrongFalsely : Prop := diffIdleRow.holds Tryz.pinned (OpenSpec.ofChange diffIdleWrong)

/-- 'spunyarnlaw26.DiffLaws': WHATEVER THE INPUT: true; the input reads as it did. -/
def diffLawsSpec : ChangeSpec := { name := "diffLaws", fn := fun _ => fun
  | [d1, d2] => { results := [.lit (.bool true)], args := [d1, d2] }
  | _ => none }
def diffLawsRow : OpenClaim := { program := "ytbnhggfiembejaagreatdoor", sum := "fa8884fa9c89abc582978f83321db27a2daa35a5771b0c502e7286821e029ecb", func := "spunyarn/spunyarnlaw26.DiffLaws", spec := "diffLaws", inPlace := ["internal/bytealg.Compare", "sync/atomic.AddInt64", "internal/abi.NoEscape"], unfollowed := true, recurses := true, named := ["internal/strconv.uint64pow10", "math/bits.deBruijn32tab", "math/bits.deBruijn64tab"], apart := false, laid := [("math/bits.deBruijn32tab", laid_math_bits_deBruijn32tab), ("math/bits.deBruijn64tab", laid_math_bits_deBruijn64tab), ("internal/strconv.uint64pow10", laid_internal_strconv_uint64pow10)] }
def DiffLawsSaid : Prop := diffLawsRow.holds Tryz.pinned (OpenSpec.ofChange diffLawsSpec)

/-- ITS FALSE NEIGHBOUR: 'it returns false'. Refute it at one input. -/
def diffLawsWrong : ChangeSpec := { name := "diffLaws", fn := fun _ => fun
  | [d1, d2] => { results := [.lit (.bool false)], args := [d1, d2] }
  | _ => none }
def DiffLawsWrongFalsely : Prop := diffLawsRow.holds Tryz.pinned (OpenSpec.ofChange diffLawsWrong)

/- THE SECOND FORM. 'bulk': how many values and letters a reading holds, each counted each time it is reached (what is shared counts as often as it is met; a slice's spare places count too). A statement '..UptoSaid' is the law's where the arguments, and the package variables that the reading takes, are together of bulk at most 1048576: NARROWER than '..Said'. Prove '..Said' where nothing that the law and all that it calls make is longer than what came in: it says more and counts as full. Else prove '..UptoSaid'. A law counts once. -/
mutual
def uptoBulk {H : Type} : DataW H → Nat
  | .lit (.string bytes) => bytes.length + 1
  | .lit _ => 1
  | .nil => 1
  | .ptr d => uptoBulk d + 1
  | .slice elems spare => uptoBulkAll elems + uptoBulkAll spare + 1
  | .agg parts => uptoBulkAll parts + 1
  | .iface _ d => uptoBulk d + 1
  | .map entries => uptoBulkEntries entries + 1
  | .held _ => 1
def uptoBulkAll {H : Type} : List (DataW H) → Nat
  | [] => 0
  | d :: r => uptoBulk d + uptoBulkAll r
def uptoBulkEntries {H : Type} : List (Lit × DataW H) → Nat
  | [] => 0
  | x :: r => uptoBulkEntry x + uptoBulkEntries r
def uptoBulkEntry {H : Type} : Lit × DataW H → Nat
  | (.string bytes, d) => bytes.length + uptoBulk d + 1
  | (_, d) => uptoBulk d + 1
 end
def uptoSmall : (H : Type) → List (DataW H) → Bool := fun _ ds => decide (uptoBulkAll ds ≤ 1048576)
def OpenSpec.upto (s : _root_.Go.ChangeSpec) : _root_.Go.OpenSpec := { _root_.Go.OpenSpec.ofChange s with cond := some uptoSmall }

/-- 'spunyarnlaw27.CutSpans', WHERE WHAT IT READS IS OF BULK AT MOST 1048576: true; the input reads as it did. -/
def cutSpansUptoRow : OpenClaim := { program := "ytbnhggfiembejaagreatdoor", sum := "fa8884fa9c89abc582978f83321db27a2daa35a5771b0c502e7286821e029ecb", func := "spunyarn/spunyarnlaw27.CutSpans", spec := "cutSpans", inPlace := ["internal/bytealg.Compare", "sync/atomic.AddInt64", "internal/abi.NoEscape", "sync/atomic.LoadInt64"], unfollowed := true, recurses := true, named := ["internal/strconv.uint64pow10", "math/bits.deBruijn32tab", "math/bits.deBruijn64tab"], apart := false, laid := [("math/bits.deBruijn32tab", laid_math_bits_deBruijn32tab), ("math/bits.deBruijn64tab", laid_math_bits_deBruijn64tab), ("internal/strconv.uint64pow10", laid_internal_strconv_uint64pow10)], narrowed := true }
def CutSpansUptoSaid : Prop := cutSpansUptoRow.holds Tryz.pinned (OpenSpec.upto cutSpansSpec)

/-- 'spunyarnlaw27.CutJoins', WHERE WHAT IT READS IS OF BULK AT MOST 1048576: true; the input reads as it did. -/
def cutJoinsUptoRow : OpenClaim := { program := "ytbnhggfiembejaagreatdoor", sum := "fa8884fa9c89abc582978f83321db27a2daa35a5771b0c502e7286821e029ecb", func := "spunyarn/spunyarnlaw27.CutJoins", spec := "cutJoins", inPlace := ["internal/bytealg.Compare", "sync/atomic.AddInt64", "internal/abi.NoEscape", "sync/atomic.LoadInt64"], unfollowed := true, recurses := true, named := ["internal/strconv.uint64pow10", "math/bits.deBruijn32tab", "math/bits.deBruijn64tab"], apart := false, laid := [("math/bits.deBruijn32tab", laid_math_bits_deBruijn32tab), ("math/bits.deBruijn64tab", laid_math_bits_deBruijn64tab), ("internal/strconv.uint64pow10", laid_internal_strconv_uint64pow10)], narrowed := true }
def CutJoinsUptoSaid : Prop := cutJoinsUptoRow.holds Tryz.pinned (OpenSpec.upto cutJoinsSpec)

/-- 'spunyarnlaw29.DeltaOf', WHERE WHAT IT READS IS OF BULK AT MOST 1048576: true; the input reads as it did. -/
def deltaOfUptoRow : OpenClaim := { program := "ytbnhggfiembejaagreatdoor", sum := "fa8884fa9c89abc582978f83321db27a2daa35a5771b0c502e7286821e029ecb", func := "spunyarn/spunyarnlaw29.DeltaOf", spec := "deltaOf", inPlace := ["internal/bytealg.Compare", "sync/atomic.AddInt64", "internal/abi.NoEscape"], unfollowed := true, recurses := true, named := ["internal/strconv.uint64pow10", "math/bits.deBruijn32tab", "math/bits.deBruijn64tab"], apart := false, laid := [("math/bits.deBruijn32tab", laid_math_bits_deBruijn32tab), ("math/bits.deBruijn64tab", laid_math_bits_deBruijn64tab), ("internal/strconv.uint64pow10", laid_internal_strconv_uint64pow10)], narrowed := true }
def DeltaOfUptoSaid : Prop := deltaOfUptoRow.holds Tryz.pinned (OpenSpec.upto deltaOfSpec)

/-- 'spunyarnlaw29.DeltaApplies', WHERE WHAT IT READS IS OF BULK AT MOST 1048576: true; the input reads as it did. -/
def deltaAppliesUptoRow : OpenClaim := { program := "ytbnhggfiembejaagreatdoor", sum := "fa8884fa9c89abc582978f83321db27a2daa35a5771b0c502e7286821e029ecb", func := "spunyarn/spunyarnlaw29.DeltaApplies", spec := "deltaApplies", inPlace := ["internal/bytealg.Compare", "sync/atomic.AddInt64", "internal/abi.NoEscape"], unfollowed := true, recurses := true, named := ["internal/strconv.uint64pow10", "math/bits.deBruijn32tab", "math/bits.deBruijn64tab"], apart := false, laid := [("math/bits.deBruijn32tab", laid_math_bits_deBruijn32tab), ("math/bits.deBruijn64tab", laid_math_bits_deBruijn64tab), ("internal/strconv.uint64pow10", laid_internal_strconv_uint64pow10)], narrowed := true }
def DeltaAppliesUptoSaid : Prop := deltaAppliesUptoRow.holds Tryz.pinned (OpenSpec.upto deltaAppliesSpec)

/-- 'spunyarnlaw29.DeltaThen', WHERE WHAT IT READS IS OF BULK AT MOST 1048576: true; the input reads as it did. -/
def deltaThenUptoRow : OpenClaim := { program := "ytbnhggfiembejaagreatdoor", sum := "fa8884fa9c89abc582978f83321db27a2daa35a5771b0c502e7286821e029ecb", func := "spunyarn/spunyarnlaw29.DeltaThen", spec := "deltaThen", inPlace := ["internal/bytealg.Compare", "sync/atomic.AddInt64", "internal/abi.NoEscape"], unfollowed := true, recurses := true, named := ["internal/strconv.uint64pow10", "math/bits.deBruijn32tab", "math/bits.deBruijn64tab"], apart := false, laid := [("math/bits.deBruijn32tab", laid_math_bits_deBruijn32tab), ("math/bits.deBruijn64tab", laid_math_bits_deBruijn64tab), ("internal/strconv.uint64pow10", laid_internal_strconv_uint64pow10)], narrowed := true }
def DeltaThenUptoSaid : Prop := deltaThenUptoRow.holds Tryz.pinned (OpenSpec.upto deltaThenSpec)

/-- 'spunyarnlaw29.DeltaWay', WHERE WHAT IT READS IS OF BULK AT MOST 1048576: true; the input reads as it did. -/
def deltaWayUptoRow : OpenClaim := { program := "ytbnhggfiembejaagreatdoor", sum := "fa8884fa9c89abc582978f83321db27a2daa35a5771b0c502e7286821e029ecb", func := "spunyarn/spunyarnlaw29.DeltaWay", spec := "deltaWay", inPlace := ["internal/bytealg.Compare", "sync/atomic.AddInt64", "internal/abi.NoEscape"], unfollowed := true, recurses := true, named := ["internal/strconv.uint64pow10", "math/bits.deBruijn32tab", "math/bits.deBruijn64tab"], apart := false, laid := [("math/bits.deBruijn32tab", laid_math_bits_deBruijn32tab), ("math/bits.deBruijn64tab", laid_math_bits_deBruijn64tab), ("internal/strconv.uint64pow10", laid_internal_strconv_uint64pow10)], narrowed := true }
def DeltaWayUptoSaid : Prop := deltaWayUptoRow.holds Tryz.pinned (OpenSpec.upto deltaWaySpec)

/-- 'spunyarnlaw27.CutSplits', WHERE WHAT IT READS IS OF BULK AT MOST 1048576: true; the input reads as it did. -/
def cutSplitsUptoRow : OpenClaim := { program := "ytbnhggfiembejaagreatdoor", sum := "fa8884fa9c89abc582978f83321db27a2daa35a5771b0c502e7286821e029ecb", func := "spunyarn/spunyarnlaw27.CutSplits", spec := "cutSplits", inPlace := ["internal/bytealg.Compare", "sync/atomic.AddInt64", "internal/abi.NoEscape", "sync/atomic.LoadInt64"], unfollowed := true, recurses := true, named := ["internal/strconv.uint64pow10", "math/bits.deBruijn32tab", "math/bits.deBruijn64tab"], apart := false, laid := [("math/bits.deBruijn32tab", laid_math_bits_deBruijn32tab), ("math/bits.deBruijn64tab", laid_math_bits_deBruijn64tab), ("internal/strconv.uint64pow10", laid_internal_strconv_uint64pow10)], narrowed := true }
def CutSplitsUptoSaid : Prop := cutSplitsUptoRow.holds Tryz.pinned (OpenSpec.upto cutSplitsSpec)

/-- 'spunyarnlaw27.CutBack', WHERE WHAT IT READS IS OF BULK AT MOST 1048576: true; the input reads as it did. -/
def cutBackUptoRow : OpenClaim := { program := "ytbnhggfiembejaagreatdoor", sum := "fa8884fa9c89abc582978f83321db27a2daa35a5771b0c502e7286821e029ecb", func := "spunyarn/spunyarnlaw27.CutBack", spec := "cutBack", inPlace := ["internal/bytealg.Compare", "sync/atomic.AddInt64", "internal/abi.NoEscape"], unfollowed := true, recurses := true, named := ["internal/strconv.uint64pow10", "math/bits.deBruijn32tab", "math/bits.deBruijn64tab"], apart := false, laid := [("math/bits.deBruijn32tab", laid_math_bits_deBruijn32tab), ("math/bits.deBruijn64tab", laid_math_bits_deBruijn64tab), ("internal/strconv.uint64pow10", laid_internal_strconv_uint64pow10)], narrowed := true }
def CutBackUptoSaid : Prop := cutBackUptoRow.holds Tryz.pinned (OpenSpec.upto cutBackSpec)

/-- 'spunyarnlaw26.DiffIs', WHERE WHAT IT READS IS OF BULK AT MOST 1048576: true; the input reads as it did. -/
def diffIsUptoRow : OpenClaim := { program := "ytbnhggfiembejaagreatdoor", sum := "fa8884fa9c89abc582978f83321db27a2daa35a5771b0c502e7286821e029ecb", func := "spunyarn/spunyarnlaw26.DiffIs", spec := "diffIs", inPlace := ["internal/bytealg.Compare", "sync/atomic.AddInt64", "internal/abi.NoEscape"], unfollowed := true, recurses := true, named := ["internal/strconv.uint64pow10", "math/bits.deBruijn32tab", "math/bits.deBruijn64tab"], apart := false, laid := [("math/bits.deBruijn32tab", laid_math_bits_deBruijn32tab), ("math/bits.deBruijn64tab", laid_math_bits_deBruijn64tab), ("internal/strconv.uint64pow10", laid_internal_strconv_uint64pow10)], narrowed := true }
def DiffIsUptoSaid : Prop := diffIsUptoRow.holds Tryz.pinned (OpenSpec.upto diffIsSpec)

/-- 'spunyarnlaw26.DiffIdle', WHERE WHAT IT READS IS OF BULK AT MOST 1048576: true; the input reads as it did. -/
def diffIdleUptoRow : OpenClaim := { program := "ytbnhggfiembejaagreatdoor", sum := "fa8884fa9c89abc582978f83321db27a2daa35a5771b0c502e7286821e029ecb", func := "spunyarn/spunyarnlaw26.DiffIdle", spec := "diffIdle", inPlace := ["internal/bytealg.Compare", "sync/atomic.AddInt64", "internal/abi.NoEscape", "sync/atomic.LoadInt64"], unfollowed := true, recurses := true, named := ["internal/strconv.uint64pow10", "math/bits.deBruijn32tab", "math/bits.deBruijn64tab"], apart := false, laid := [("math/bits.deBruijn32tab", laid_math_bits_deBruijn32tab), ("math/bits.deBruijn64tab", laid_math_bits_deBruijn64tab), ("internal/strconv.uint64pow10", laid_internal_strconv_uint64pow10)], narrowed := true }
def DiffIdleUptoSaid : Prop := diffIdleUptoRow.holds Tryz.pinned (OpenSpec.upto diffIdleSpec)

/-- 'spunyarnlaw26.DiffLaws', WHERE WHAT IT READS IS OF BULK AT MOST 1048576: true; the input reads as it did. -/
def diffLawsUptoRow : OpenClaim := { program := "ytbnhggfiembejaagreatdoor", sum := "fa8884fa9c89abc582978f83321db27a2daa35a5771b0c502e7286821e029ecb", func := "spunyarn/spunyarnlaw26.DiffLaws", spec := "diffLaws", inPlace := ["internal/bytealg.Compare", "sync/atomic.AddInt64", "internal/abi.NoEscape"], unfollowed := true, recurses := true, named := ["internal/strconv.uint64pow10", "math/bits.deBruijn32tab", "math/bits.deBruijn64tab"], apart := false, laid := [("math/bits.deBruijn32tab", laid_math_bits_deBruijn32tab), ("math/bits.deBruijn64tab", laid_math_bits_deBruijn64tab), ("internal/strconv.uint64pow10", laid_internal_strconv_uint64pow10)], narrowed := true }
def DiffLawsUptoSaid : Prop := diffLawsUptoRow.holds Tryz.pinned (OpenSpec.upto diffLawsSpec)

end Rows
end Go.Proofs.YtbnhggfiembejaaGreatDoor
