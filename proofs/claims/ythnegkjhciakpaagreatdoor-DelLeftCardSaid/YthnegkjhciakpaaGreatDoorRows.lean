/-
  NARROWER THAN 'FOR EVERY INPUT', by the rows' own cells (each row's printed sentence says how): UnionPicks: laid · UnionLaws: laid · DelLeft: laid · UnionIs: laid · UnionIdle: laid · TransApart: laid · TransMade: laid · TransSame: laid · TransNobody: laid · TransPlays: laid · TreePlays: laid.
  DERIVED. THE GIVEN ROWS OF THIS SEAT. 11 by the template 'for every input the law returns true; each argument reads behind the call as it read before'; 0 by the template 'total and deterministic' (their statements: YthnegkjhciakpaaGreatDoorTotals.lean).
  GIVEN WITH THE SEED: the statements are not yours to turn. If you find one false, say at which input.
  Laid BY PROGRAM, IN A SANDBOX (cutbox-rows.mjs): the forced cells as the released guide's own fill.sh prints them over the translation 25f398f13f0e5a56… (all of the seat's roots in one cut). By AI agents, Wed Nov 11 2026. No macro, syntax, notation, axiom, sorry.
-/
import Derived.Test.YthnegkjhciakpaaGreatDoorChecked
import GoSem.Claim
import GoSem.ClaimJoined
import GoSem.ClaimMapViews
import Derived.JoinedTies
import Derived.KernelRfl
namespace Go.Proofs.YthnegkjhciakpaaGreatDoor
/- THE CELL 'sum', in the pinned program and in every row, IS THE sha256 OF THE DUMP (.gsa) THAT YthnegkjhciakpaaGreatDoorProg.lean LOADS. Nothing in Lean hashes anything: it is a label: what it is worth is what the hold of that sum in a sandbox is worth. -/
noncomputable def Tryz.pinned : Pinned := { name := "ythnegkjhciakpaagreatdoor", sum := "25f398f13f0e5a561047ad2156f21476e1518bf631ea77a469c514c90896195e", checked := Tryz.checked }
namespace Rows
def none {H : Type} : Left H := { results := [], args := [] }

/- WHAT THE LISTED PACKAGE-LEVEL VARIABLES READ AS WHEN THE CALL BEGINS. Each datum BY PROGRAM (the guide's laid-datum.mjs) off the statement by which the dump's own 'gosem.cut.vars' lays the variable. In a bare row this is a premise. The card (YthnegkjhciakpaaGreatDoorCards.lean) ties it to the program's text. -/
def laid_math_bits_deBruijn32tab {H : Type} : DataW H := .agg [.lit (.int .u8 0), .lit (.int .u8 1), .lit (.int .u8 28), .lit (.int .u8 2), .lit (.int .u8 29), .lit (.int .u8 14), .lit (.int .u8 24), .lit (.int .u8 3), .lit (.int .u8 30), .lit (.int .u8 22), .lit (.int .u8 20), .lit (.int .u8 15), .lit (.int .u8 25), .lit (.int .u8 17), .lit (.int .u8 4), .lit (.int .u8 8), .lit (.int .u8 31), .lit (.int .u8 27), .lit (.int .u8 13), .lit (.int .u8 23), .lit (.int .u8 21), .lit (.int .u8 19), .lit (.int .u8 16), .lit (.int .u8 7), .lit (.int .u8 26), .lit (.int .u8 12), .lit (.int .u8 18), .lit (.int .u8 6), .lit (.int .u8 11), .lit (.int .u8 5), .lit (.int .u8 10), .lit (.int .u8 9)]
def laid_math_bits_deBruijn64tab {H : Type} : DataW H := .agg [.lit (.int .u8 0), .lit (.int .u8 1), .lit (.int .u8 56), .lit (.int .u8 2), .lit (.int .u8 57), .lit (.int .u8 49), .lit (.int .u8 28), .lit (.int .u8 3), .lit (.int .u8 61), .lit (.int .u8 58), .lit (.int .u8 42), .lit (.int .u8 50), .lit (.int .u8 38), .lit (.int .u8 29), .lit (.int .u8 17), .lit (.int .u8 4), .lit (.int .u8 62), .lit (.int .u8 47), .lit (.int .u8 59), .lit (.int .u8 36), .lit (.int .u8 45), .lit (.int .u8 43), .lit (.int .u8 51), .lit (.int .u8 22), .lit (.int .u8 53), .lit (.int .u8 39), .lit (.int .u8 33), .lit (.int .u8 30), .lit (.int .u8 24), .lit (.int .u8 18), .lit (.int .u8 12), .lit (.int .u8 5), .lit (.int .u8 63), .lit (.int .u8 55), .lit (.int .u8 48), .lit (.int .u8 27), .lit (.int .u8 60), .lit (.int .u8 41), .lit (.int .u8 37), .lit (.int .u8 16), .lit (.int .u8 46), .lit (.int .u8 35), .lit (.int .u8 44), .lit (.int .u8 21), .lit (.int .u8 52), .lit (.int .u8 32), .lit (.int .u8 23), .lit (.int .u8 11), .lit (.int .u8 54), .lit (.int .u8 26), .lit (.int .u8 40), .lit (.int .u8 15), .lit (.int .u8 34), .lit (.int .u8 20), .lit (.int .u8 31), .lit (.int .u8 10), .lit (.int .u8 25), .lit (.int .u8 14), .lit (.int .u8 19), .lit (.int .u8 9), .lit (.int .u8 13), .lit (.int .u8 8), .lit (.int .u8 7), .lit (.int .u8 6)]
def laid_internal_strconv_uint64pow10 {H : Type} : DataW H := .agg [.lit (.int .u64 1), .lit (.int .u64 10), .lit (.int .u64 100), .lit (.int .u64 1000), .lit (.int .u64 10000), .lit (.int .u64 100000), .lit (.int .u64 1000000), .lit (.int .u64 10000000), .lit (.int .u64 100000000), .lit (.int .u64 1000000000), .lit (.int .u64 10000000000), .lit (.int .u64 100000000000), .lit (.int .u64 1000000000000), .lit (.int .u64 10000000000000), .lit (.int .u64 100000000000000), .lit (.int .u64 1000000000000000), .lit (.int .u64 10000000000000000), .lit (.int .u64 100000000000000000), .lit (.int .u64 1000000000000000000), .lit (.int .u64 10000000000000000000)]

/-- 'spunyarnlaw24.UnionPicks': WHATEVER THE INPUT: true; the input reads as it did. -/
def unionPicksSpec : ChangeSpec := { name := "unionPicks", fn := fun _ => fun
  | [d1, d2, d3] => { results := [.lit (.bool true)], args := [d1, d2, d3] }
  | _ => none }
def unionPicksRow : OpenClaim := { program := "ythnegkjhciakpaagreatdoor", sum := "25f398f13f0e5a561047ad2156f21476e1518bf631ea77a469c514c90896195e", func := "spunyarn/spunyarnlaw24.UnionPicks", spec := "unionPicks", inPlace := ["sync/atomic.AddInt64", "internal/bytealg.Compare", "internal/abi.NoEscape"], unfollowed := true, recurses := true, named := ["internal/strconv.uint64pow10", "math/bits.deBruijn32tab", "math/bits.deBruijn64tab"], apart := false, laid := [("math/bits.deBruijn32tab", laid_math_bits_deBruijn32tab), ("math/bits.deBruijn64tab", laid_math_bits_deBruijn64tab), ("internal/strconv.uint64pow10", laid_internal_strconv_uint64pow10)] }
def UnionPicksSaid : Prop := unionPicksRow.holds Tryz.pinned (OpenSpec.ofChange unionPicksSpec)

/-- ITS FALSE NEIGHBOUR: 'it returns false'. Refute it at one input. -/
def unionPicksWrong : ChangeSpec := { name := "unionPicks", fn := fun _ => fun
  | [d1, d2, d3] => { results := [.lit (.bool false)], args := [d1, d2, d3] }
  | _ => none }
def UnionPicksWrongFalsely : Prop := unionPicksRow.holds Tryz.pinned (OpenSpec.ofChange unionPicksWrong)

/-- 'spunyarnlaw24.UnionLaws': WHATEVER THE INPUT: true; the input reads as it did. -/
def unionLawsSpec : ChangeSpec := { name := "unionLaws", fn := fun _ => fun
  | [d1, d2] => { results := [.lit (.bool true)], args := [d1, d2] }
  | _ => none }
def unionLawsRow : OpenClaim := { program := "ythnegkjhciakpaagreatdoor", sum := "25f398f13f0e5a561047ad2156f21476e1518bf631ea77a469c514c90896195e", func := "spunyarn/spunyarnlaw24.UnionLaws", spec := "unionLaws", inPlace := ["internal/bytealg.Compare", "sync/atomic.AddInt64", "internal/abi.NoEscape"], unfollowed := true, recurses := true, named := ["internal/strconv.uint64pow10", "math/bits.deBruijn32tab", "math/bits.deBruijn64tab"], apart := false, laid := [("math/bits.deBruijn32tab", laid_math_bits_deBruijn32tab), ("math/bits.deBruijn64tab", laid_math_bits_deBruijn64tab), ("internal/strconv.uint64pow10", laid_internal_strconv_uint64pow10)] }
def UnionLawsSaid : Prop := unionLawsRow.holds Tryz.pinned (OpenSpec.ofChange unionLawsSpec)

/-- ITS FALSE NEIGHBOUR: 'it returns false'. Refute it at one input. -/
def unionLawsWrong : ChangeSpec := { name := "unionLaws", fn := fun _ => fun
  | [d1, d2] => { results := [.lit (.bool false)], args := [d1, d2] }
  | _ => none }
def UnionLawsWrongFalsely : Prop := unionLawsRow.holds Tryz.pinned (OpenSpec.ofChange unionLawsWrong)

/-- 'spunyarnlaw16.DelLeft': WHATEVER THE INPUT: true; the input reads as it did. -/
def delLeftSpec : ChangeSpec := { name := "delLeft", fn := fun _ => fun
  | [d1, d2, d3] => { results := [.lit (.bool true)], args := [d1, d2, d3] }
  | _ => none }
def delLeftRow : OpenClaim := { program := "ythnegkjhciakpaagreatdoor", sum := "25f398f13f0e5a561047ad2156f21476e1518bf631ea77a469c514c90896195e", func := "spunyarn/spunyarnlaw16.DelLeft", spec := "delLeft", inPlace := ["internal/bytealg.Compare", "sync/atomic.AddInt64", "internal/abi.NoEscape", "sync/atomic.LoadInt64"], recurses := true, named := ["internal/strconv.uint64pow10", "math/bits.deBruijn32tab", "math/bits.deBruijn64tab"], apart := false, laid := [("math/bits.deBruijn32tab", laid_math_bits_deBruijn32tab), ("math/bits.deBruijn64tab", laid_math_bits_deBruijn64tab), ("internal/strconv.uint64pow10", laid_internal_strconv_uint64pow10)] }
def DelLeftSaid : Prop := delLeftRow.holds Tryz.pinned (OpenSpec.ofChange delLeftSpec)

/-- ITS FALSE NEIGHBOUR: 'it returns false'. Refute it at one input. -/
def delLeftWrong : ChangeSpec := { name := "delLeft", fn := fun _ => fun
  | [d1, d2, d3] => { results := [.lit (.bool false)], args := [d1, d2, d3] }
  | _ => none }
def DelLeftWrongFalsely : Prop := delLeftRow.holds Tryz.pinned (OpenSpec.ofChange delLeftWrong)

/-- 'spunyarnlaw24.UnionIs': WHATEVER THE INPUT: true; the input reads as it did. -/
def unionIsSpec : ChangeSpec := { name := "unionIs", fn := fun _ => fun
  | [d1, d2, d3] => { results := [.lit (.bool true)], args := [d1, d2, d3] }
  | _ => none }
def unionIsRow : OpenClaim := { program := "ythnegkjhciakpaagreatdoor", sum := "25f398f13f0e5a561047ad2156f21476e1518bf631ea77a469c514c90896195e", func := "spunyarn/spunyarnlaw24.UnionIs", spec := "unionIs", inPlace := ["internal/bytealg.Compare", "sync/atomic.AddInt64", "internal/abi.NoEscape"], unfollowed := true, recurses := true, named := ["internal/strconv.uint64pow10", "math/bits.deBruijn32tab", "math/bits.deBruijn64tab"], apart := false, laid := [("math/bits.deBruijn32tab", laid_math_bits_deBruijn32tab), ("math/bits.deBruijn64tab", laid_math_bits_deBruijn64tab), ("internal/strconv.uint64pow10", laid_internal_strconv_uint64pow10)] }
def UnionIsSaid : Prop := unionIsRow.holds Tryz.pinned (OpenSpec.ofChange unionIsSpec)

/-- ITS FALSE NEIGHBOUR: 'it returns false'. Refute it at one input. -/
def unionIsWrong : ChangeSpec := { name := "unionIs", fn := fun _ => fun
  | [d1, d2, d3] => { results := [.lit (.bool false)], args := [d1, d2, d3] }
  | _ => none }
def UnionIsWrongFalsely : Prop := unionIsRow.holds Tryz.pinned (OpenSpec.ofChange unionIsWrong)

/-- 'spunyarnlaw24.UnionIdle': WHATEVER THE INPUT: true; the input reads as it did. -/
def unionIdleSpec : ChangeSpec := { name := "unionIdle", fn := fun _ => fun
  | [d1, d2, d3] => { results := [.lit (.bool true)], args := [d1, d2, d3] }
  | _ => none }
def unionIdleRow : OpenClaim := { program := "ythnegkjhciakpaagreatdoor", sum := "25f398f13f0e5a561047ad2156f21476e1518bf631ea77a469c514c90896195e", func := "spunyarn/spunyarnlaw24.UnionIdle", spec := "unionIdle", inPlace := ["internal/bytealg.Compare", "sync/atomic.AddInt64", "internal/abi.NoEscape", "sync/atomic.LoadInt64"], unfollowed := true, recurses := true, named := ["internal/strconv.uint64pow10", "math/bits.deBruijn32tab", "math/bits.deBruijn64tab"], apart := false, laid := [("math/bits.deBruijn32tab", laid_math_bits_deBruijn32tab), ("math/bits.deBruijn64tab", laid_math_bits_deBruijn64tab), ("internal/strconv.uint64pow10", laid_internal_strconv_uint64pow10)] }
def UnionIdleSaid : Prop := unionIdleRow.holds Tryz.pinned (OpenSpec.ofChange unionIdleSpec)

/-- ITS FALSE NEIGHBOUR: 'it returns false'. Refute it at one input. -/
def unionIdleWrong : ChangeSpec := { name := "unionIdle", fn := fun _ => fun
  | [d1, d2, d3] => { results := [.lit (.bool false)], args := [d1, d2, d3] }
  | _ => none }
def UnionIdleWrongFalsely : Prop := unionIdleRow.holds Tryz.pinned (OpenSpec.ofChange unionIdleWrong)

/-- 'spunyarnlaw20.TransApart': WHATEVER THE INPUT: true; the input reads as it did. -/
def transApartSpec : ChangeSpec := { name := "transApart", fn := fun _ => fun
  | [d1, d2, d3] => { results := [.lit (.bool true)], args := [d1, d2, d3] }
  | _ => none }
def transApartRow : OpenClaim := { program := "ythnegkjhciakpaagreatdoor", sum := "25f398f13f0e5a561047ad2156f21476e1518bf631ea77a469c514c90896195e", func := "spunyarn/spunyarnlaw20.TransApart", spec := "transApart", inPlace := ["sync/atomic.AddUint64", "internal/bytealg.Compare", "sync/atomic.AddInt64", "sync/atomic.LoadUint32", "(*internal/sync.Mutex).Lock", "internal/race.Disable", "sync/atomic.CompareAndSwapInt32", "internal/race.Enable", "internal/race.Acquire", "(*internal/sync.Mutex).lockSlow", "internal/sync.runtime_canSpin", "internal/sync.runtime_doSpin", "internal/sync.throw", "internal/sync.runtime_nanotime", "internal/sync.runtime_SemacquireMutex", "sync/atomic.AddInt32", "(*internal/sync.Mutex).Unlock", "internal/race.ReleaseMerge", "(*internal/sync.Mutex).unlockSlow", "internal/sync.fatal", "internal/sync.runtime_Semrelease", "sync/atomic.StoreUint32", "internal/abi.NoEscape"], unfollowed := true, recurses := true, named := ["internal/strconv.uint64pow10", "math/bits.deBruijn32tab", "math/bits.deBruijn64tab"], apart := false, laid := [("math/bits.deBruijn32tab", laid_math_bits_deBruijn32tab), ("math/bits.deBruijn64tab", laid_math_bits_deBruijn64tab), ("internal/strconv.uint64pow10", laid_internal_strconv_uint64pow10)] }
def TransApartSaid : Prop := transApartRow.holds Tryz.pinned (OpenSpec.ofChange transApartSpec)

/-- ITS FALSE NEIGHBOUR: 'it returns false'. Refute it at one input. -/
def transApartWrong : ChangeSpec := { name := "transApart", fn := fun _ => fun
  | [d1, d2, d3] => { results := [.lit (.bool false)], args := [d1, d2, d3] }
  | _ => none }
def TransApartWrongFalsely : Prop := transApartRow.holds Tryz.pinned (OpenSpec.ofChange transApartWrong)

/-- 'spunyarnlaw20.TransMade': WHATEVER THE INPUT: true; the input reads as it did. -/
def transMadeSpec : ChangeSpec := { name := "transMade", fn := fun _ => fun
  | [d1, d2, d3] => { results := [.lit (.bool true)], args := [d1, d2, d3] }
  | _ => none }
def transMadeRow : OpenClaim := { program := "ythnegkjhciakpaagreatdoor", sum := "25f398f13f0e5a561047ad2156f21476e1518bf631ea77a469c514c90896195e", func := "spunyarn/spunyarnlaw20.TransMade", spec := "transMade", inPlace := ["sync/atomic.AddUint64", "internal/bytealg.Compare", "sync/atomic.AddInt64", "sync/atomic.LoadUint32", "(*internal/sync.Mutex).Lock", "internal/race.Disable", "sync/atomic.CompareAndSwapInt32", "internal/race.Enable", "internal/race.Acquire", "(*internal/sync.Mutex).lockSlow", "internal/sync.runtime_canSpin", "internal/sync.runtime_doSpin", "internal/sync.throw", "internal/sync.runtime_nanotime", "internal/sync.runtime_SemacquireMutex", "sync/atomic.AddInt32", "(*internal/sync.Mutex).Unlock", "internal/race.ReleaseMerge", "(*internal/sync.Mutex).unlockSlow", "internal/sync.fatal", "internal/sync.runtime_Semrelease", "sync/atomic.StoreUint32", "internal/abi.NoEscape", "sync/atomic.LoadInt64"], unfollowed := true, recurses := true, named := ["internal/strconv.uint64pow10", "math/bits.deBruijn32tab", "math/bits.deBruijn64tab"], apart := false, laid := [("math/bits.deBruijn32tab", laid_math_bits_deBruijn32tab), ("math/bits.deBruijn64tab", laid_math_bits_deBruijn64tab), ("internal/strconv.uint64pow10", laid_internal_strconv_uint64pow10)] }
def TransMadeSaid : Prop := transMadeRow.holds Tryz.pinned (OpenSpec.ofChange transMadeSpec)

/-- ITS FALSE NEIGHBOUR: 'it returns false'. Refute it at one input. -/
def transMadeWrong : ChangeSpec := { name := "transMade", fn := fun _ => fun
  | [d1, d2, d3] => { results := [.lit (.bool false)], args := [d1, d2, d3] }
  | _ => none }
def TransMadeWrongFalsely : Prop := transMadeRow.holds Tryz.pinned (OpenSpec.ofChange transMadeWrong)

/-- 'spunyarnlaw20.TransSame': WHATEVER THE INPUT: true; the input reads as it did. -/
def transSameSpec : ChangeSpec := { name := "transSame", fn := fun _ => fun
  | [d1, d2] => { results := [.lit (.bool true)], args := [d1, d2] }
  | _ => none }
def transSameRow : OpenClaim := { program := "ythnegkjhciakpaagreatdoor", sum := "25f398f13f0e5a561047ad2156f21476e1518bf631ea77a469c514c90896195e", func := "spunyarn/spunyarnlaw20.TransSame", spec := "transSame", inPlace := ["sync/atomic.AddUint64", "internal/bytealg.Compare", "sync/atomic.AddInt64", "sync/atomic.LoadUint32", "(*internal/sync.Mutex).Lock", "internal/race.Disable", "sync/atomic.CompareAndSwapInt32", "internal/race.Enable", "internal/race.Acquire", "(*internal/sync.Mutex).lockSlow", "internal/sync.runtime_canSpin", "internal/sync.runtime_doSpin", "internal/sync.throw", "internal/sync.runtime_nanotime", "internal/sync.runtime_SemacquireMutex", "sync/atomic.AddInt32", "(*internal/sync.Mutex).Unlock", "internal/race.ReleaseMerge", "(*internal/sync.Mutex).unlockSlow", "internal/sync.fatal", "internal/sync.runtime_Semrelease", "sync/atomic.StoreUint32", "internal/abi.NoEscape"], unfollowed := true, recurses := true, named := ["internal/strconv.uint64pow10", "math/bits.deBruijn32tab", "math/bits.deBruijn64tab"], apart := false, laid := [("math/bits.deBruijn32tab", laid_math_bits_deBruijn32tab), ("math/bits.deBruijn64tab", laid_math_bits_deBruijn64tab), ("internal/strconv.uint64pow10", laid_internal_strconv_uint64pow10)] }
def TransSameSaid : Prop := transSameRow.holds Tryz.pinned (OpenSpec.ofChange transSameSpec)

/-- ITS FALSE NEIGHBOUR: 'it returns false'. Refute it at one input. -/
def transSameWrong : ChangeSpec := { name := "transSame", fn := fun _ => fun
  | [d1, d2] => { results := [.lit (.bool false)], args := [d1, d2] }
  | _ => none }
def TransSameWrongFalsely : Prop := transSameRow.holds Tryz.pinned (OpenSpec.ofChange transSameWrong)

/-- 'spunyarnlaw20.TransNobody': WHATEVER THE INPUT: true; the input reads as it did. -/
def transNobodySpec : ChangeSpec := { name := "transNobody", fn := fun _ => fun
  | [d1, d2] => { results := [.lit (.bool true)], args := [d1, d2] }
  | _ => none }
def transNobodyRow : OpenClaim := { program := "ythnegkjhciakpaagreatdoor", sum := "25f398f13f0e5a561047ad2156f21476e1518bf631ea77a469c514c90896195e", func := "spunyarn/spunyarnlaw20.TransNobody", spec := "transNobody", inPlace := ["sync/atomic.AddUint64", "sync/atomic.LoadUint32", "(*internal/sync.Mutex).Lock", "internal/race.Disable", "sync/atomic.CompareAndSwapInt32", "internal/race.Enable", "internal/race.Acquire", "(*internal/sync.Mutex).lockSlow", "internal/sync.runtime_canSpin", "internal/sync.runtime_doSpin", "internal/sync.throw", "internal/sync.runtime_nanotime", "internal/sync.runtime_SemacquireMutex", "sync/atomic.AddInt32", "(*internal/sync.Mutex).Unlock", "internal/race.ReleaseMerge", "(*internal/sync.Mutex).unlockSlow", "internal/sync.fatal", "internal/sync.runtime_Semrelease", "sync/atomic.StoreUint32", "sync/atomic.AddInt64", "internal/bytealg.Compare", "internal/abi.NoEscape"], unfollowed := true, recurses := true, named := ["internal/strconv.uint64pow10", "math/bits.deBruijn32tab", "math/bits.deBruijn64tab"], apart := false, laid := [("math/bits.deBruijn32tab", laid_math_bits_deBruijn32tab), ("math/bits.deBruijn64tab", laid_math_bits_deBruijn64tab), ("internal/strconv.uint64pow10", laid_internal_strconv_uint64pow10)] }
def TransNobodySaid : Prop := transNobodyRow.holds Tryz.pinned (OpenSpec.ofChange transNobodySpec)

/-- ITS FALSE NEIGHBOUR: 'it returns false'. Refute it at one input. -/
def transNobodyWrong : ChangeSpec := { name := "transNobody", fn := fun _ => fun
  | [d1, d2] => { results := [.lit (.bool false)], args := [d1, d2] }
  | _ => none }
def TransNobodyWrongFalsely : Prop := transNobodyRow.holds Tryz.pinned (OpenSpec.ofChange transNobodyWrong)

/-- 'spunyarnlaw20.TransPlays': WHATEVER THE INPUT: true; the input reads as it did. -/
def transPlaysSpec : ChangeSpec := { name := "transPlays", fn := fun _ => fun
  | [d] => { results := [.lit (.bool true)], args := [d] }
  | _ => none }
def transPlaysRow : OpenClaim := { program := "ythnegkjhciakpaagreatdoor", sum := "25f398f13f0e5a561047ad2156f21476e1518bf631ea77a469c514c90896195e", func := "spunyarn/spunyarnlaw20.TransPlays", spec := "transPlays", inPlace := ["sync/atomic.AddUint64", "internal/bytealg.Compare", "sync/atomic.AddInt64", "sync/atomic.LoadUint32", "(*internal/sync.Mutex).Lock", "internal/race.Disable", "sync/atomic.CompareAndSwapInt32", "internal/race.Enable", "internal/race.Acquire", "(*internal/sync.Mutex).lockSlow", "internal/sync.runtime_canSpin", "internal/sync.runtime_doSpin", "internal/sync.throw", "internal/sync.runtime_nanotime", "internal/sync.runtime_SemacquireMutex", "sync/atomic.AddInt32", "(*internal/sync.Mutex).Unlock", "internal/race.ReleaseMerge", "(*internal/sync.Mutex).unlockSlow", "internal/sync.fatal", "internal/sync.runtime_Semrelease", "sync/atomic.StoreUint32", "internal/abi.NoEscape"], unfollowed := true, recurses := true, named := ["internal/strconv.uint64pow10", "math/bits.deBruijn32tab", "math/bits.deBruijn64tab"], apart := false, laid := [("math/bits.deBruijn32tab", laid_math_bits_deBruijn32tab), ("math/bits.deBruijn64tab", laid_math_bits_deBruijn64tab), ("internal/strconv.uint64pow10", laid_internal_strconv_uint64pow10)] }
def TransPlaysSaid : Prop := transPlaysRow.holds Tryz.pinned (OpenSpec.ofChange transPlaysSpec)

/-- ITS FALSE NEIGHBOUR: 'it returns false'. Refute it at one input. -/
def transPlaysWrong : ChangeSpec := { name := "transPlays", fn := fun _ => fun
  | [d] => { results := [.lit (.bool false)], args := [d] }
  | _ => none }
def TransPlaysWrongFalsely : Prop := transPlaysRow.holds Tryz.pinned (OpenSpec.ofChange transPlaysWrong)

/-- 'spunyarnlaw19.TreePlays': WHATEVER THE INPUT: true; the input reads as it did. -/
def treePlaysSpec : ChangeSpec := { name := "treePlays", fn := fun _ => fun
  | [d] => { results := [.lit (.bool true)], args := [d] }
  | _ => none }
def treePlaysRow : OpenClaim := { program := "ythnegkjhciakpaagreatdoor", sum := "25f398f13f0e5a561047ad2156f21476e1518bf631ea77a469c514c90896195e", func := "spunyarn/spunyarnlaw19.TreePlays", spec := "treePlays", inPlace := ["sync/atomic.AddUint64", "internal/bytealg.Compare", "sync/atomic.AddInt64", "internal/abi.NoEscape", "sync/atomic.LoadUint32", "(*internal/sync.Mutex).Lock", "internal/race.Disable", "sync/atomic.CompareAndSwapInt32", "internal/race.Enable", "internal/race.Acquire", "(*internal/sync.Mutex).lockSlow", "internal/sync.runtime_canSpin", "internal/sync.runtime_doSpin", "internal/sync.throw", "internal/sync.runtime_nanotime", "internal/sync.runtime_SemacquireMutex", "sync/atomic.AddInt32", "(*internal/sync.Mutex).Unlock", "internal/race.ReleaseMerge", "(*internal/sync.Mutex).unlockSlow", "internal/sync.fatal", "internal/sync.runtime_Semrelease", "sync/atomic.StoreUint32", "sync/atomic.LoadInt64"], unfollowed := true, recurses := true, named := ["internal/strconv.uint64pow10", "math/bits.deBruijn32tab", "math/bits.deBruijn64tab"], apart := false, laid := [("math/bits.deBruijn32tab", laid_math_bits_deBruijn32tab), ("math/bits.deBruijn64tab", laid_math_bits_deBruijn64tab), ("internal/strconv.uint64pow10", laid_internal_strconv_uint64pow10)] }
def TreePlaysSaid : Prop := treePlaysRow.holds Tryz.pinned (OpenSpec.ofChange treePlaysSpec)

/-- ITS FALSE NEIGHBOUR: 'it returns false'. Refute it at one input. -/
def treePlaysWrong : ChangeSpec := { name := "treePlays", fn := fun _ => fun
  | [d] => { results := [.lit (.bool false)], args := [d] }
  | _ => none }
def TreePlaysWrongFalsely : Prop := treePlaysRow.holds Tryz.pinned (OpenSpec.ofChange treePlaysWrong)

/- THE SECOND FORM. 'bulk': how many values and letters a reading holds, each counted each time it is reached (what is shared counts as often as it is met; a slice's spare places count too). A statement '..UptoSaid' is the law's where the arguments, and the package variables that the reading takes, are together of bulk at most 1048576: NARROWER than '..Said'. Prove '..Said' where nothing that the law and all that it calls make is longer than what came in: it says more and counts as full. Else prove '..UptoSaid'. A law counts once. -/
mutual
def uptoBulk {H : Type} : DataW H → Nat
  | .lit (.string bytes) => bytes.length + 1
  | .lit _ => 1
  | .nil => 1
  | .ptr d => uptoBulk d + 1
  | .slice elems spare => uptoBulkAll elems + uptoBulkAll spare + 1
  | .agg parts => uptoBulkAll parts + 1
  | .iface _ d => uptoBulk d + 1
  | .map entries => uptoBulkEntries entries + 1
  | .held _ => 1
def uptoBulkAll {H : Type} : List (DataW H) → Nat
  | [] => 0
  | d :: r => uptoBulk d + uptoBulkAll r
def uptoBulkEntries {H : Type} : List (Lit × DataW H) → Nat
  | [] => 0
  | x :: r => uptoBulkEntry x + uptoBulkEntries r
def uptoBulkEntry {H : Type} : Lit × DataW H → Nat
  | (.string bytes, d) => bytes.length + uptoBulk d + 1
  | (_, d) => uptoBulk d + 1
 end
def uptoSmall : (H : Type) → List (DataW H) → Bool := fun _ ds => decide (uptoBulkAll ds ≤ 1048576)
def OpenSpec.upto (s : _root_.Go.ChangeSpec) : _root_.Go.OpenSpec := { _root_.Go.OpenSpec.ofChange s with cond := some uptoSmall }

/-- 'spunyarnlaw24.UnionPicks', WHERE WHAT IT READS IS OF BULK AT MOST 1048576: true; the input reads as it did. -/
def unionPicksUptoRow : OpenClaim := { program := "ythnegkjhciakpaagreatdoor", sum := "25f398f13f0e5a561047ad2156f21476e1518bf631ea77a469c514c90896195e", func := "spunyarn/spunyarnlaw24.UnionPicks", spec := "unionPicks", inPlace := ["sync/atomic.AddInt64", "internal/bytealg.Compare", "internal/abi.NoEscape"], unfollowed := true, recurses := true, named := ["internal/strconv.uint64pow10", "math/bits.deBruijn32tab", "math/bits.deBruijn64tab"], apart := false, laid := [("math/bits.deBruijn32tab", laid_math_bits_deBruijn32tab), ("math/bits.deBruijn64tab", laid_math_bits_deBruijn64tab), ("internal/strconv.uint64pow10", laid_internal_strconv_uint64pow10)], narrowed := true }
def UnionPicksUptoSaid : Prop := unionPicksUptoRow.holds Tryz.pinned (OpenSpec.upto unionPicksSpec)

/-- 'spunyarnlaw24.UnionLaws', WHERE WHAT IT READS IS OF BULK AT MOST 1048576: true; the input reads as it did. -/
def unionLawsUptoRow : OpenClaim := { program := "ythnegkjhciakpaagreatdoor", sum := "25f398f13f0e5a561047ad2156f21476e1518bf631ea77a469c514c90896195e", func := "spunyarn/spunyarnlaw24.UnionLaws", spec := "unionLaws", inPlace := ["internal/bytealg.Compare", "sync/atomic.AddInt64", "internal/abi.NoEscape"], unfollowed := true, recurses := true, named := ["internal/strconv.uint64pow10", "math/bits.deBruijn32tab", "math/bits.deBruijn64tab"], apart := false, laid := [("math/bits.deBruijn32tab", laid_math_bits_deBruijn32tab), ("math/bits.deBruijn64tab", laid_math_bits_deBruijn64tab), ("internal/strconv.uint64pow10", laid_internal_strconv_uint64pow10)], narrowed := true }
def UnionLawsUptoSaid : Prop := unionLawsUptoRow.holds Tryz.pinned (OpenSpec.upto unionLawsSpec)

/-- 'spunyarnlaw16.DelLeft', WHERE WHAT IT READS IS OF BULK AT MOST 1048576: true; the input reads as it did. -/
def delLeftUptoRow : OpenClaim := { program := "ythnegkjhciakpaagreatdoor", sum := "25f398f13f0e5a561047ad2156f21476e1518bf631ea77a469c514c90896195e", func := "spunyarn/spunyarnlaw16.DelLeft", spec := "delLeft", inPlace := ["internal/bytealg.Compare", "sync/atomic.AddInt64", "internal/abi.NoEscape", "sync/atomic.LoadInt64"], recurses := true, named := ["internal/strconv.uint64pow10", "math/bits.deBruijn32tab", "math/bits.deBruijn64tab"], apart := false, laid := [("math/bits.deBruijn32tab", laid_math_bits_deBruijn32tab), ("math/bits.deBruijn64tab", laid_math_bits_deBruijn64tab), ("internal/strconv.uint64pow10", laid_internal_strconv_uint64pow10)], narrowed := true }
def DelLeftUptoSaid : Prop := delLeftUptoRow.holds Tryz.pinned (OpenSpec.upto delLeftSpec)

/-- 'spunyarnlaw24.UnionIs', WHERE WHAT IT READS IS OF BULK AT MOST 1048576: true; the input reads as it did. -/
def unionIsUptoRow : OpenClaim := { program := "ythnegkjhciakpaagreatdoor", sum := "25f398f13f0e5a561047ad2156f21476e1518bf631ea77a469c514c90896195e", func := "spunyarn/spunyarnlaw24.UnionIs", spec := "unionIs", inPlace := ["internal/bytealg.Compare", "sync/atomic.AddInt64", "internal/abi.NoEscape"], unfollowed := true, recurses := true, named := ["internal/strconv.uint64pow10", "math/bits.deBruijn32tab", "math/bits.deBruijn64tab"], apart := false, laid := [("math/bits.deBruijn32tab", laid_math_bits_deBruijn32tab), ("math/bits.deBruijn64tab", laid_math_bits_deBruijn64tab), ("internal/strconv.uint64pow10", laid_internal_strconv_uint64pow10)], narrowed := true }
def UnionIsUptoSaid : Prop := unionIsUptoRow.holds Tryz.pinned (OpenSpec.upto unionIsSpec)

/-- 'spunyarnlaw24.UnionIdle', WHERE WHAT IT READS IS OF BULK AT MOST 1048576: true; the input reads as it did. -/
def unionIdleUptoRow : OpenClaim := { program := "ythnegkjhciakpaagreatdoor", sum := "25f398f13f0e5a561047ad2156f21476e1518bf631ea77a469c514c90896195e", func := "spunyarn/spunyarnlaw24.UnionIdle", spec := "unionIdle", inPlace := ["internal/bytealg.Compare", "sync/atomic.AddInt64", "internal/abi.NoEscape", "sync/atomic.LoadInt64"], unfollowed := true, recurses := true, named := ["internal/strconv.uint64pow10", "math/bits.deBruijn32tab", "math/bits.deBruijn64tab"], apart := false, laid := [("math/bits.deBruijn32tab", laid_math_bits_deBruijn32tab), ("math/bits.deBruijn64tab", laid_math_bits_deBruijn64tab), ("internal/strconv.uint64pow10", laid_internal_strconv_uint64pow10)], narrowed := true }
def UnionIdleUptoSaid : Prop := unionIdleUptoRow.holds Tryz.pinned (OpenSpec.upto unionIdleSpec)

/-- 'spunyarnlaw20.TransApart', WHERE WHAT IT READS IS OF BULK AT MOST 1048576: true; the input reads as it did. -/
def transApartUptoRow : OpenClaim := { program := "ythnegkjhciakpaagreatdoor", sum := "25f398f13f0e5a561047ad2156f21476e1518bf631ea77a469c514c90896195e", func := "spunyarn/spunyarnlaw20.TransApart", spec := "transApart", inPlace := ["sync/atomic.AddUint64", "internal/bytealg.Compare", "sync/atomic.AddInt64", "sync/atomic.LoadUint32", "(*internal/sync.Mutex).Lock", "internal/race.Disable", "sync/atomic.CompareAndSwapInt32", "internal/race.Enable", "internal/race.Acquire", "(*internal/sync.Mutex).lockSlow", "internal/sync.runtime_canSpin", "internal/sync.runtime_doSpin", "internal/sync.throw", "internal/sync.runtime_nanotime", "internal/sync.runtime_SemacquireMutex", "sync/atomic.AddInt32", "(*internal/sync.Mutex).Unlock", "internal/race.ReleaseMerge", "(*internal/sync.Mutex).unlockSlow", "internal/sync.fatal", "internal/sync.runtime_Semrelease", "sync/atomic.StoreUint32", "internal/abi.NoEscape"], unfollowed := true, recurses := true, named := ["internal/strconv.uint64pow10", "math/bits.deBruijn32tab", "math/bits.deBruijn64tab"], apart := false, laid := [("math/bits.deBruijn32tab", laid_math_bits_deBruijn32tab), ("math/bits.deBruijn64tab", laid_math_bits_deBruijn64tab), ("internal/strconv.uint64pow10", laid_internal_strconv_uint64pow10)], narrowed := true }
def TransApartUptoSaid : Prop := transApartUptoRow.holds Tryz.pinned (OpenSpec.upto transApartSpec)

/-- 'spunyarnlaw20.TransMade', WHERE WHAT IT READS IS OF BULK AT MOST 1048576: true; the input reads as it did. -/
def transMadeUptoRow : OpenClaim := { program := "ythnegkjhciakpaagreatdoor", sum := "25f398f13f0e5a561047ad2156f21476e1518bf631ea77a469c514c90896195e", func := "spunyarn/spunyarnlaw20.TransMade", spec := "transMade", inPlace := ["sync/atomic.AddUint64", "internal/bytealg.Compare", "sync/atomic.AddInt64", "sync/atomic.LoadUint32", "(*internal/sync.Mutex).Lock", "internal/race.Disable", "sync/atomic.CompareAndSwapInt32", "internal/race.Enable", "internal/race.Acquire", "(*internal/sync.Mutex).lockSlow", "internal/sync.runtime_canSpin", "internal/sync.runtime_doSpin", "internal/sync.throw", "internal/sync.runtime_nanotime", "internal/sync.runtime_SemacquireMutex", "sync/atomic.AddInt32", "(*internal/sync.Mutex).Unlock", "internal/race.ReleaseMerge", "(*internal/sync.Mutex).unlockSlow", "internal/sync.fatal", "internal/sync.runtime_Semrelease", "sync/atomic.StoreUint32", "internal/abi.NoEscape", "sync/atomic.LoadInt64"], unfollowed := true, recurses := true, named := ["internal/strconv.uint64pow10", "math/bits.deBruijn32tab", "math/bits.deBruijn64tab"], apart := false, laid := [("math/bits.deBruijn32tab", laid_math_bits_deBruijn32tab), ("math/bits.deBruijn64tab", laid_math_bits_deBruijn64tab), ("internal/strconv.uint64pow10", laid_internal_strconv_uint64pow10)], narrowed := true }
def TransMadeUptoSaid : Prop := transMadeUptoRow.holds Tryz.pinned (OpenSpec.upto transMadeSpec)

/-- 'spunyarnlaw20.TransSame', WHERE WHAT IT READS IS OF BULK AT MOST 1048576: true; the input reads as it did. -/
def transSameUptoRow : OpenClaim := { program := "ythnegkjhciakpaagreatdoor", sum := "25f398f13f0e5a561047ad2156f21476e1518bf631ea77a469c514c90896195e", func := "spunyarn/spunyarnlaw20.TransSame", spec := "transSame", inPlace := ["sync/atomic.AddUint64", "internal/bytealg.Compare", "sync/atomic.AddInt64", "sync/atomic.LoadUint32", "(*internal/sync.Mutex).Lock", "internal/race.Disable", "sync/atomic.CompareAndSwapInt32", "internal/race.Enable", "internal/race.Acquire", "(*internal/sync.Mutex).lockSlow", "internal/sync.runtime_canSpin", "internal/sync.runtime_doSpin", "internal/sync.throw", "internal/sync.runtime_nanotime", "internal/sync.runtime_SemacquireMutex", "sync/atomic.AddInt32", "(*internal/sync.Mutex).Unlock", "internal/race.ReleaseMerge", "(*internal/sync.Mutex).unlockSlow", "internal/sync.fatal", "internal/sync.runtime_Semrelease", "sync/atomic.StoreUint32", "internal/abi.NoEscape"], unfollowed := true, recurses := true, named := ["internal/strconv.uint64pow10", "math/bits.deBruijn32tab", "math/bits.deBruijn64tab"], apart := false, laid := [("math/bits.deBruijn32tab", laid_math_bits_deBruijn32tab), ("math/bits.deBruijn64tab", laid_math_bits_deBruijn64tab), ("internal/strconv.uint64pow10", laid_internal_strconv_uint64pow10)], narrowed := true }
def TransSameUptoSaid : Prop := transSameUptoRow.holds Tryz.pinned (OpenSpec.upto transSameSpec)

/-- 'spunyarnlaw20.TransNobody', WHERE WHAT IT READS IS OF BULK AT MOST 1048576: true; the input reads as it did. -/
def transNobodyUptoRow : OpenClaim := { program := "ythnegkjhciakpaagreatdoor", sum := "25f398f13f0e5a561047ad2156f21476e1518bf631ea77a469c514c90896195e", func := "spunyarn/spunyarnlaw20.TransNobody", spec := "transNobody", inPlace := ["sync/atomic.AddUint64", "sync/atomic.LoadUint32", "(*internal/sync.Mutex).Lock", "internal/race.Disable", "sync/atomic.CompareAndSwapInt32", "internal/race.Enable", "internal/race.Acquire", "(*internal/sync.Mutex).lockSlow", "internal/sync.runtime_canSpin", "internal/sync.runtime_doSpin", "internal/sync.throw", "internal/sync.runtime_nanotime", "internal/sync.runtime_SemacquireMutex", "sync/atomic.AddInt32", "(*internal/sync.Mutex).Unlock", "internal/race.ReleaseMerge", "(*internal/sync.Mutex).unlockSlow", "internal/sync.fatal", "internal/sync.runtime_Semrelease", "sync/atomic.StoreUint32", "sync/atomic.AddInt64", "internal/bytealg.Compare", "internal/abi.NoEscape"], unfollowed := true, recurses := true, named := ["internal/strconv.uint64pow10", "math/bits.deBruijn32tab", "math/bits.deBruijn64tab"], apart := false, laid := [("math/bits.deBruijn32tab", laid_math_bits_deBruijn32tab), ("math/bits.deBruijn64tab", laid_math_bits_deBruijn64tab), ("internal/strconv.uint64pow10", laid_internal_strconv_uint64pow10)], narrowed := true }
def TransNobodyUptoSaid : Prop := transNobodyUptoRow.holds Tryz.pinned (OpenSpec.upto transNobodySpec)

/-- 'spunyarnlaw20.TransPlays', WHERE WHAT IT READS IS OF BULK AT MOST 1048576: true; the input reads as it did. -/
def transPlaysUptoRow : OpenClaim := { program := "ythnegkjhciakpaagreatdoor", sum := "25f398f13f0e5a561047ad2156f21476e1518bf631ea77a469c514c90896195e", func := "spunyarn/spunyarnlaw20.TransPlays", spec := "transPlays", inPlace := ["sync/atomic.AddUint64", "internal/bytealg.Compare", "sync/atomic.AddInt64", "sync/atomic.LoadUint32", "(*internal/sync.Mutex).Lock", "internal/race.Disable", "sync/atomic.CompareAndSwapInt32", "internal/race.Enable", "internal/race.Acquire", "(*internal/sync.Mutex).lockSlow", "internal/sync.runtime_canSpin", "internal/sync.runtime_doSpin", "internal/sync.throw", "internal/sync.runtime_nanotime", "internal/sync.runtime_SemacquireMutex", "sync/atomic.AddInt32", "(*internal/sync.Mutex).Unlock", "internal/race.ReleaseMerge", "(*internal/sync.Mutex).unlockSlow", "internal/sync.fatal", "internal/sync.runtime_Semrelease", "sync/atomic.StoreUint32", "internal/abi.NoEscape"], unfollowed := true, recurses := true, named := ["internal/strconv.uint64pow10", "math/bits.deBruijn32tab", "math/bits.deBruijn64tab"], apart := false, laid := [("math/bits.deBruijn32tab", laid_math_bits_deBruijn32tab), ("math/bits.deBruijn64tab", laid_math_bits_deBruijn64tab), ("internal/strconv.uint64pow10", laid_internal_strconv_uint64pow10)], narrowed := true }
def TransPlaysUptoSaid : Prop := transPlaysUptoRow.holds Tryz.pinned (OpenSpec.upto transPlaysSpec)

/-- 'spunyarnlaw19.TreePlays', WHERE WHAT IT READS IS OF BULK AT MOST 1048576: true; the input reads as it did. -/
def treePlaysUptoRow : OpenClaim := { program := "ythnegkjhciakpaagreatdoor", sum := "25f398f13f0e5a561047ad2156f21476e1518bf631ea77a469c514c90896195e", func := "spunyarn/spunyarnlaw19.TreePlays", spec := "treePlays", inPlace := ["sync/atomic.AddUint64", "internal/bytealg.Compare", "sync/atomic.AddInt64", "internal/abi.NoEscape", "sync/atomic.LoadUint32", "(*internal/sync.Mutex).Lock", "internal/race.Disable", "sync/atomic.CompareAndSwapInt32", "internal/race.Enable", "internal/race.Acquire", "(*internal/sync.Mutex).lockSlow", "internal/sync.runtime_canSpin", "internal/sync.runtime_doSpin", "internal/sync.throw", "internal/sync.runtime_nanotime", "internal/sync.runtime_SemacquireMutex", "sync/atomic.AddInt32", "(*internal/sync.Mutex).Unlock", "internal/race.ReleaseMerge", "(*internal/sync.Mutex).unlockSlow", "internal/sync.fatal", "internal/sync.runtime_Semrelease", "sync/atomic.StoreUint32", "sync/atomic.LoadInt64"], unfollowed := true, recurses := true, named := ["internal/strconv.uint64pow10", "math/bits.deBruijn32tab", "math/bits.deBruijn64tab"], apart := false, laid := [("math/bits.deBruijn32tab", laid_math_bits_deBruijn32tab), ("math/bits.deBruijn64tab", laid_math_bits_deBruijn64tab), ("internal/strconv.uint64pow10", laid_internal_strconv_uint64pow10)], narrowed := true }
def TreePlaysUptoSaid : Prop := treePlaysUptoRow.holds Tryz.pinned (OpenSpec.upto treePlaysSpec)

end Rows
end Go.Proofs.YthnegkjhciakpaaGreatDoor
