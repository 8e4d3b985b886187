/-
  NARROWER THAN 'FOR EVERY INPUT', by the rows' own cells (each row's printed sentence says how): ShaOwn: laid · ShaPieces: laid · ShaCopies: laid · ShaLike: laid · ShaSums: laid · ShaBack: laid · CellAfter: laid · CellLazy: laid · CellSwaps: laid · CellCounts: laid · CellTakes: laid · ObjBack: laid.
  DERIVED. THE GIVEN ROWS OF THIS SEAT. 12 by the template 'for every input the law returns true; each argument reads behind the call as it read before'; 0 by the template 'total and deterministic' (their statements: YtcgdpchekmapfaaDoorTotals.lean).
  GIVEN WITH THE SEED: the statements are not yours to turn. If you find one false, say at which input.
  Laid BY PROGRAM, IN A SANDBOX (cutbox-rows.mjs): the forced cells as the released guide's own fill.sh prints them over the translation cec3fd7fb5ae6e01… (all of the seat's roots in one cut). By AI agents, Wed Nov 11 2026. No macro, syntax, notation, axiom, sorry.
-/
import Derived.Test.YtcgdpchekmapfaaDoorChecked
import GoSem.Claim
import GoSem.ClaimJoined
import GoSem.ClaimMapViews
import Derived.JoinedTies
import Derived.KernelRfl
namespace Go.Proofs.YtcgdpchekmapfaaDoor
/- THE CELL 'sum', in the pinned program and in every row, IS THE sha256 OF THE DUMP (.gsa) THAT YtcgdpchekmapfaaDoorProg.lean LOADS. Nothing in Lean hashes anything: it is a label: what it is worth is what the hold of that sum in a sandbox is worth. -/
noncomputable def Tryd.pinned : Pinned := { name := "ytcgdpchekmapfaadoor", sum := "cec3fd7fb5ae6e019d332a308dba3a074ca5b9571dd1065272a553337d16d721", checked := Tryd.checked }
namespace Rows
def none {H : Type} : Left H := { results := [], args := [] }

/- WHAT THE LISTED PACKAGE-LEVEL VARIABLES READ AS WHEN THE CALL BEGINS. Each datum BY PROGRAM (the guide's laid-datum.mjs) off the statement by which the dump's own 'gosem.cut.vars' lays the variable. In a bare row this is a premise. The card (YtcgdpchekmapfaaDoorCards.lean) ties it to the program's text. -/
def laid_marline_sha_cubes {H : Type} : DataW H := .agg [.lit (.int .u32 1116352408), .lit (.int .u32 1899447441), .lit (.int .u32 3049323471), .lit (.int .u32 3921009573), .lit (.int .u32 961987163), .lit (.int .u32 1508970993), .lit (.int .u32 2453635748), .lit (.int .u32 2870763221), .lit (.int .u32 3624381080), .lit (.int .u32 310598401), .lit (.int .u32 607225278), .lit (.int .u32 1426881987), .lit (.int .u32 1925078388), .lit (.int .u32 2162078206), .lit (.int .u32 2614888103), .lit (.int .u32 3248222580), .lit (.int .u32 3835390401), .lit (.int .u32 4022224774), .lit (.int .u32 264347078), .lit (.int .u32 604807628), .lit (.int .u32 770255983), .lit (.int .u32 1249150122), .lit (.int .u32 1555081692), .lit (.int .u32 1996064986), .lit (.int .u32 2554220882), .lit (.int .u32 2821834349), .lit (.int .u32 2952996808), .lit (.int .u32 3210313671), .lit (.int .u32 3336571891), .lit (.int .u32 3584528711), .lit (.int .u32 113926993), .lit (.int .u32 338241895), .lit (.int .u32 666307205), .lit (.int .u32 773529912), .lit (.int .u32 1294757372), .lit (.int .u32 1396182291), .lit (.int .u32 1695183700), .lit (.int .u32 1986661051), .lit (.int .u32 2177026350), .lit (.int .u32 2456956037), .lit (.int .u32 2730485921), .lit (.int .u32 2820302411), .lit (.int .u32 3259730800), .lit (.int .u32 3345764771), .lit (.int .u32 3516065817), .lit (.int .u32 3600352804), .lit (.int .u32 4094571909), .lit (.int .u32 275423344), .lit (.int .u32 430227734), .lit (.int .u32 506948616), .lit (.int .u32 659060556), .lit (.int .u32 883997877), .lit (.int .u32 958139571), .lit (.int .u32 1322822218), .lit (.int .u32 1537002063), .lit (.int .u32 1747873779), .lit (.int .u32 1955562222), .lit (.int .u32 2024104815), .lit (.int .u32 2227730452), .lit (.int .u32 2361852424), .lit (.int .u32 2428436474), .lit (.int .u32 2756734187), .lit (.int .u32 3204031479), .lit (.int .u32 3329325298)]
def laid_marline_sha_squares {H : Type} : DataW H := .agg [.lit (.int .u32 1779033703), .lit (.int .u32 3144134277), .lit (.int .u32 1013904242), .lit (.int .u32 2773480762), .lit (.int .u32 1359893119), .lit (.int .u32 2600822924), .lit (.int .u32 528734635), .lit (.int .u32 1541459225)]

/-- 'marlaw1.ShaOwn': WHATEVER THE INPUT: true; the input reads as it did. -/
def shaOwnSpec : ChangeSpec := { name := "shaOwn", fn := fun _ => fun
  | [d] => { results := [.lit (.bool true)], args := [d] }
  | _ => none }
def shaOwnRow : OpenClaim := { program := "ytcgdpchekmapfaadoor", sum := "cec3fd7fb5ae6e019d332a308dba3a074ca5b9571dd1065272a553337d16d721", func := "marline/marlaw1.ShaOwn", spec := "shaOwn", inPlace := ["sync/atomic.LoadUint32", "(*internal/sync.Mutex).Lock", "internal/race.Disable", "sync/atomic.CompareAndSwapInt32", "internal/race.Enable", "internal/race.Acquire", "(*internal/sync.Mutex).lockSlow", "internal/sync.runtime_canSpin", "internal/sync.runtime_doSpin", "internal/sync.throw", "internal/sync.runtime_nanotime", "internal/sync.runtime_SemacquireMutex", "sync/atomic.AddInt32", "(*internal/sync.Mutex).Unlock", "internal/race.ReleaseMerge", "(*internal/sync.Mutex).unlockSlow", "internal/sync.fatal", "internal/sync.runtime_Semrelease", "sync/atomic.StoreUint32"], unfollowed := true, recurses := true, named := ["marline/sha.squares", "marline/sha.cubes"], apart := false, laid := [("marline/sha.cubes", laid_marline_sha_cubes), ("marline/sha.squares", laid_marline_sha_squares)] }
def ShaOwnSaid : Prop := shaOwnRow.holds Tryd.pinned (OpenSpec.ofChange shaOwnSpec)

/-- ITS FALSE NEIGHBOUR: 'it returns false'. Refute it at one input. -/
def shaOwnWrong : ChangeSpec := { name := "shaOwn", fn := fun _ => fun
  | [d] => { results := [.lit (.bool false)], args := [d] }
  | _ => none }
def ShaOwnWrongFalsely : Prop := shaOwnRow.holds Tryd.pinned (OpenSpec.ofChange shaOwnWrong)

/-- 'marlaw1.ShaPieces': WHATEVER THE INPUT: true; the input reads as it did. -/
def shaPiecesSpec : ChangeSpec := { name := "shaPieces", fn := fun _ => fun
  | [d] => { results := [.lit (.bool true)], args := [d] }
  | _ => none }
def shaPiecesRow : OpenClaim := { program := "ytcgdpchekmapfaadoor", sum := "cec3fd7fb5ae6e019d332a308dba3a074ca5b9571dd1065272a553337d16d721", func := "marline/marlaw1.ShaPieces", spec := "shaPieces", inPlace := ["sync/atomic.LoadUint32", "(*internal/sync.Mutex).Lock", "internal/race.Disable", "sync/atomic.CompareAndSwapInt32", "internal/race.Enable", "internal/race.Acquire", "(*internal/sync.Mutex).lockSlow", "internal/sync.runtime_canSpin", "internal/sync.runtime_doSpin", "internal/sync.throw", "internal/sync.runtime_nanotime", "internal/sync.runtime_SemacquireMutex", "sync/atomic.AddInt32", "(*internal/sync.Mutex).Unlock", "internal/race.ReleaseMerge", "(*internal/sync.Mutex).unlockSlow", "internal/sync.fatal", "internal/sync.runtime_Semrelease", "sync/atomic.StoreUint32"], unfollowed := true, recurses := true, named := ["marline/sha.squares", "marline/sha.cubes"], apart := false, laid := [("marline/sha.cubes", laid_marline_sha_cubes), ("marline/sha.squares", laid_marline_sha_squares)] }
def ShaPiecesSaid : Prop := shaPiecesRow.holds Tryd.pinned (OpenSpec.ofChange shaPiecesSpec)

/-- ITS FALSE NEIGHBOUR: 'it returns false'. Refute it at one input. -/
def shaPiecesWrong : ChangeSpec := { name := "shaPieces", fn := fun _ => fun
  | [d] => { results := [.lit (.bool false)], args := [d] }
  | _ => none }
def ShaPiecesWrongFalsely : Prop := shaPiecesRow.holds Tryd.pinned (OpenSpec.ofChange shaPiecesWrong)

/-- 'marlaw1.ShaCopies': WHATEVER THE INPUT: true; the input reads as it did. -/
def shaCopiesSpec : ChangeSpec := { name := "shaCopies", fn := fun _ => fun
  | [d1, d2, d3] => { results := [.lit (.bool true)], args := [d1, d2, d3] }
  | _ => none }
def shaCopiesRow : OpenClaim := { program := "ytcgdpchekmapfaadoor", sum := "cec3fd7fb5ae6e019d332a308dba3a074ca5b9571dd1065272a553337d16d721", func := "marline/marlaw1.ShaCopies", spec := "shaCopies", inPlace := ["sync/atomic.LoadUint32", "(*internal/sync.Mutex).Lock", "internal/race.Disable", "sync/atomic.CompareAndSwapInt32", "internal/race.Enable", "internal/race.Acquire", "(*internal/sync.Mutex).lockSlow", "internal/sync.runtime_canSpin", "internal/sync.runtime_doSpin", "internal/sync.throw", "internal/sync.runtime_nanotime", "internal/sync.runtime_SemacquireMutex", "sync/atomic.AddInt32", "(*internal/sync.Mutex).Unlock", "internal/race.ReleaseMerge", "(*internal/sync.Mutex).unlockSlow", "internal/sync.fatal", "internal/sync.runtime_Semrelease", "sync/atomic.StoreUint32"], unfollowed := true, recurses := true, named := ["marline/sha.squares", "marline/sha.cubes"], apart := false, laid := [("marline/sha.cubes", laid_marline_sha_cubes), ("marline/sha.squares", laid_marline_sha_squares)] }
def ShaCopiesSaid : Prop := shaCopiesRow.holds Tryd.pinned (OpenSpec.ofChange shaCopiesSpec)

/-- ITS FALSE NEIGHBOUR: 'it returns false'. Refute it at one input. -/
def shaCopiesWrong : ChangeSpec := { name := "shaCopies", fn := fun _ => fun
  | [d1, d2, d3] => { results := [.lit (.bool false)], args := [d1, d2, d3] }
  | _ => none }
def ShaCopiesWrongFalsely : Prop := shaCopiesRow.holds Tryd.pinned (OpenSpec.ofChange shaCopiesWrong)

/-- 'marlaw1.ShaLike': WHATEVER THE INPUT: true; the input reads as it did. -/
def shaLikeSpec : ChangeSpec := { name := "shaLike", fn := fun _ => fun
  | [d1, d2] => { results := [.lit (.bool true)], args := [d1, d2] }
  | _ => none }
def shaLikeRow : OpenClaim := { program := "ytcgdpchekmapfaadoor", sum := "cec3fd7fb5ae6e019d332a308dba3a074ca5b9571dd1065272a553337d16d721", func := "marline/marlaw1.ShaLike", spec := "shaLike", inPlace := ["sync/atomic.LoadUint32", "(*internal/sync.Mutex).Lock", "internal/race.Disable", "sync/atomic.CompareAndSwapInt32", "internal/race.Enable", "internal/race.Acquire", "(*internal/sync.Mutex).lockSlow", "internal/sync.runtime_canSpin", "internal/sync.runtime_doSpin", "internal/sync.throw", "internal/sync.runtime_nanotime", "internal/sync.runtime_SemacquireMutex", "sync/atomic.AddInt32", "(*internal/sync.Mutex).Unlock", "internal/race.ReleaseMerge", "(*internal/sync.Mutex).unlockSlow", "internal/sync.fatal", "internal/sync.runtime_Semrelease", "sync/atomic.StoreUint32", "internal/bytealg.IndexByteString"], unfollowed := true, recurses := true, named := ["marline/sha.squares", "marline/sha.cubes"], apart := false, laid := [("marline/sha.cubes", laid_marline_sha_cubes), ("marline/sha.squares", laid_marline_sha_squares)] }
def ShaLikeSaid : Prop := shaLikeRow.holds Tryd.pinned (OpenSpec.ofChange shaLikeSpec)

/-- ITS FALSE NEIGHBOUR: 'it returns false'. Refute it at one input. -/
def shaLikeWrong : ChangeSpec := { name := "shaLike", fn := fun _ => fun
  | [d1, d2] => { results := [.lit (.bool false)], args := [d1, d2] }
  | _ => none }
def ShaLikeWrongFalsely : Prop := shaLikeRow.holds Tryd.pinned (OpenSpec.ofChange shaLikeWrong)

/-- 'marlaw1.ShaSums': WHATEVER THE INPUT: true; the input reads as it did. -/
def shaSumsSpec : ChangeSpec := { name := "shaSums", fn := fun _ => fun
  | [d1, d2] => { results := [.lit (.bool true)], args := [d1, d2] }
  | _ => none }
def shaSumsRow : OpenClaim := { program := "ytcgdpchekmapfaadoor", sum := "cec3fd7fb5ae6e019d332a308dba3a074ca5b9571dd1065272a553337d16d721", func := "marline/marlaw1.ShaSums", spec := "shaSums", inPlace := ["sync/atomic.LoadUint32", "(*internal/sync.Mutex).Lock", "internal/race.Disable", "sync/atomic.CompareAndSwapInt32", "internal/race.Enable", "internal/race.Acquire", "(*internal/sync.Mutex).lockSlow", "internal/sync.runtime_canSpin", "internal/sync.runtime_doSpin", "internal/sync.throw", "internal/sync.runtime_nanotime", "internal/sync.runtime_SemacquireMutex", "sync/atomic.AddInt32", "(*internal/sync.Mutex).Unlock", "internal/race.ReleaseMerge", "(*internal/sync.Mutex).unlockSlow", "internal/sync.fatal", "internal/sync.runtime_Semrelease", "sync/atomic.StoreUint32", "internal/bytealg.IndexByteString"], unfollowed := true, recurses := true, named := ["marline/sha.squares", "marline/sha.cubes"], apart := false, laid := [("marline/sha.cubes", laid_marline_sha_cubes), ("marline/sha.squares", laid_marline_sha_squares)] }
def ShaSumsSaid : Prop := shaSumsRow.holds Tryd.pinned (OpenSpec.ofChange shaSumsSpec)

/-- ITS FALSE NEIGHBOUR: 'it returns false'. Refute it at one input. -/
def shaSumsWrong : ChangeSpec := { name := "shaSums", fn := fun _ => fun
  | [d1, d2] => { results := [.lit (.bool false)], args := [d1, d2] }
  | _ => none }
def ShaSumsWrongFalsely : Prop := shaSumsRow.holds Tryd.pinned (OpenSpec.ofChange shaSumsWrong)

/-- 'marlaw1.ShaBack': WHATEVER THE INPUT: true; the input reads as it did. -/
def shaBackSpec : ChangeSpec := { name := "shaBack", fn := fun _ => fun
  | [d1, d2] => { results := [.lit (.bool true)], args := [d1, d2] }
  | _ => none }
def shaBackRow : OpenClaim := { program := "ytcgdpchekmapfaadoor", sum := "cec3fd7fb5ae6e019d332a308dba3a074ca5b9571dd1065272a553337d16d721", func := "marline/marlaw1.ShaBack", spec := "shaBack", inPlace := ["sync/atomic.LoadUint32", "(*internal/sync.Mutex).Lock", "internal/race.Disable", "sync/atomic.CompareAndSwapInt32", "internal/race.Enable", "internal/race.Acquire", "(*internal/sync.Mutex).lockSlow", "internal/sync.runtime_canSpin", "internal/sync.runtime_doSpin", "internal/sync.throw", "internal/sync.runtime_nanotime", "internal/sync.runtime_SemacquireMutex", "sync/atomic.AddInt32", "(*internal/sync.Mutex).Unlock", "internal/race.ReleaseMerge", "(*internal/sync.Mutex).unlockSlow", "internal/sync.fatal", "internal/sync.runtime_Semrelease", "sync/atomic.StoreUint32", "internal/bytealg.IndexByteString"], unfollowed := true, recurses := true, named := ["marline/sha.squares", "marline/sha.cubes"], apart := false, laid := [("marline/sha.cubes", laid_marline_sha_cubes), ("marline/sha.squares", laid_marline_sha_squares)] }
def ShaBackSaid : Prop := shaBackRow.holds Tryd.pinned (OpenSpec.ofChange shaBackSpec)

/-- ITS FALSE NEIGHBOUR: 'it returns false'. Refute it at one input. -/
def shaBackWrong : ChangeSpec := { name := "shaBack", fn := fun _ => fun
  | [d1, d2] => { results := [.lit (.bool false)], args := [d1, d2] }
  | _ => none }
def ShaBackWrongFalsely : Prop := shaBackRow.holds Tryd.pinned (OpenSpec.ofChange shaBackWrong)

/-- 'marlaw3.CellAfter': WHATEVER THE INPUT: true; the input reads as it did. -/
def cellAfterSpec : ChangeSpec := { name := "cellAfter", fn := fun _ => fun
  | [d1, d2] => { results := [.lit (.bool true)], args := [d1, d2] }
  | _ => none }
def cellAfterRow : OpenClaim := { program := "ytcgdpchekmapfaadoor", sum := "cec3fd7fb5ae6e019d332a308dba3a074ca5b9571dd1065272a553337d16d721", func := "marline/marlaw3.CellAfter", spec := "cellAfter", inPlace := ["sync/atomic.StorePointer", "sync/atomic.LoadInt64", "sync/atomic.LoadUint32", "(*internal/sync.Mutex).Lock", "internal/race.Disable", "sync/atomic.CompareAndSwapInt32", "internal/race.Enable", "internal/race.Acquire", "(*internal/sync.Mutex).lockSlow", "internal/sync.runtime_canSpin", "internal/sync.runtime_doSpin", "internal/sync.throw", "internal/sync.runtime_nanotime", "internal/sync.runtime_SemacquireMutex", "sync/atomic.AddInt32", "(*internal/sync.Mutex).Unlock", "internal/race.ReleaseMerge", "(*internal/sync.Mutex).unlockSlow", "internal/sync.fatal", "internal/sync.runtime_Semrelease", "sync/atomic.StoreUint32", "sync/atomic.AddInt64", "sync/atomic.LoadPointer", "sync/atomic.CompareAndSwapPointer"], unfollowed := true, recurses := true, named := ["marline/sha.squares", "marline/sha.cubes"], apart := false, laid := [("marline/sha.cubes", laid_marline_sha_cubes), ("marline/sha.squares", laid_marline_sha_squares)] }
def CellAfterSaid : Prop := cellAfterRow.holds Tryd.pinned (OpenSpec.ofChange cellAfterSpec)

/-- ITS FALSE NEIGHBOUR: 'it returns false'. Refute it at one input. -/
def cellAfterWrong : ChangeSpec := { name := "cellAfter", fn := fun _ => fun
  | [d1, d2] => { results := [.lit (.bool false)], args := [d1, d2] }
  | _ => none }
def CellAfterWrongFalsely : Prop := cellAfterRow.holds Tryd.pinned (OpenSpec.ofChange cellAfterWrong)

/-- 'marlaw3.CellLazy': WHATEVER THE INPUT: true; the input reads as it did. -/
def cellLazySpec : ChangeSpec := { name := "cellLazy", fn := fun _ => fun
  | [d1, d2] => { results := [.lit (.bool true)], args := [d1, d2] }
  | _ => none }
def cellLazyRow : OpenClaim := { program := "ytcgdpchekmapfaadoor", sum := "cec3fd7fb5ae6e019d332a308dba3a074ca5b9571dd1065272a553337d16d721", func := "marline/marlaw3.CellLazy", spec := "cellLazy", inPlace := ["sync/atomic.StorePointer", "sync/atomic.LoadInt64", "sync/atomic.LoadUint32", "(*internal/sync.Mutex).Lock", "internal/race.Disable", "sync/atomic.CompareAndSwapInt32", "internal/race.Enable", "internal/race.Acquire", "(*internal/sync.Mutex).lockSlow", "internal/sync.runtime_canSpin", "internal/sync.runtime_doSpin", "internal/sync.throw", "internal/sync.runtime_nanotime", "internal/sync.runtime_SemacquireMutex", "sync/atomic.AddInt32", "(*internal/sync.Mutex).Unlock", "internal/race.ReleaseMerge", "(*internal/sync.Mutex).unlockSlow", "internal/sync.fatal", "internal/sync.runtime_Semrelease", "sync/atomic.StoreUint32", "sync/atomic.AddInt64", "sync/atomic.LoadPointer", "sync/atomic.CompareAndSwapPointer"], unfollowed := true, recurses := true, named := ["marline/sha.squares", "marline/sha.cubes"], apart := false, laid := [("marline/sha.cubes", laid_marline_sha_cubes), ("marline/sha.squares", laid_marline_sha_squares)] }
def CellLazySaid : Prop := cellLazyRow.holds Tryd.pinned (OpenSpec.ofChange cellLazySpec)

/-- ITS FALSE NEIGHBOUR: 'it returns false'. Refute it at one input. -/
def cellLazyWrong : ChangeSpec := { name := "cellLazy", fn := fun _ => fun
  | [d1, d2] => { results := [.lit (.bool false)], args := [d1, d2] }
  | _ => none }
def CellLazyWrongFalsely : Prop := cellLazyRow.holds Tryd.pinned (OpenSpec.ofChange cellLazyWrong)

/-- 'marlaw3.CellSwaps': WHATEVER THE INPUT: true; the input reads as it did. -/
def cellSwapsSpec : ChangeSpec := { name := "cellSwaps", fn := fun _ => fun
  | [d1, d2] => { results := [.lit (.bool true)], args := [d1, d2] }
  | _ => none }
def cellSwapsRow : OpenClaim := { program := "ytcgdpchekmapfaadoor", sum := "cec3fd7fb5ae6e019d332a308dba3a074ca5b9571dd1065272a553337d16d721", func := "marline/marlaw3.CellSwaps", spec := "cellSwaps", inPlace := ["sync/atomic.StorePointer", "sync/atomic.LoadInt64", "sync/atomic.LoadUint32", "(*internal/sync.Mutex).Lock", "internal/race.Disable", "sync/atomic.CompareAndSwapInt32", "internal/race.Enable", "internal/race.Acquire", "(*internal/sync.Mutex).lockSlow", "internal/sync.runtime_canSpin", "internal/sync.runtime_doSpin", "internal/sync.throw", "internal/sync.runtime_nanotime", "internal/sync.runtime_SemacquireMutex", "sync/atomic.AddInt32", "(*internal/sync.Mutex).Unlock", "internal/race.ReleaseMerge", "(*internal/sync.Mutex).unlockSlow", "internal/sync.fatal", "internal/sync.runtime_Semrelease", "sync/atomic.StoreUint32", "sync/atomic.AddInt64", "sync/atomic.LoadPointer", "sync/atomic.CompareAndSwapPointer", "sync/atomic.SwapPointer"], unfollowed := true, recurses := true, named := ["marline/sha.squares", "marline/sha.cubes"], apart := false, laid := [("marline/sha.cubes", laid_marline_sha_cubes), ("marline/sha.squares", laid_marline_sha_squares)] }
def CellSwapsSaid : Prop := cellSwapsRow.holds Tryd.pinned (OpenSpec.ofChange cellSwapsSpec)

/-- ITS FALSE NEIGHBOUR: 'it returns false'. Refute it at one input. -/
def cellSwapsWrong : ChangeSpec := { name := "cellSwaps", fn := fun _ => fun
  | [d1, d2] => { results := [.lit (.bool false)], args := [d1, d2] }
  | _ => none }
def CellSwapsWrongFalsely : Prop := cellSwapsRow.holds Tryd.pinned (OpenSpec.ofChange cellSwapsWrong)

/-- 'marlaw3.CellCounts': WHATEVER THE INPUT: true; the input reads as it did. -/
def cellCountsSpec : ChangeSpec := { name := "cellCounts", fn := fun _ => fun
  | [d] => { results := [.lit (.bool true)], args := [d] }
  | _ => none }
def cellCountsRow : OpenClaim := { program := "ytcgdpchekmapfaadoor", sum := "cec3fd7fb5ae6e019d332a308dba3a074ca5b9571dd1065272a553337d16d721", func := "marline/marlaw3.CellCounts", spec := "cellCounts", inPlace := ["sync/atomic.StorePointer", "sync/atomic.LoadInt64", "sync/atomic.LoadUint32", "(*internal/sync.Mutex).Lock", "internal/race.Disable", "sync/atomic.CompareAndSwapInt32", "internal/race.Enable", "internal/race.Acquire", "(*internal/sync.Mutex).lockSlow", "internal/sync.runtime_canSpin", "internal/sync.runtime_doSpin", "internal/sync.throw", "internal/sync.runtime_nanotime", "internal/sync.runtime_SemacquireMutex", "sync/atomic.AddInt32", "(*internal/sync.Mutex).Unlock", "internal/race.ReleaseMerge", "(*internal/sync.Mutex).unlockSlow", "internal/sync.fatal", "internal/sync.runtime_Semrelease", "sync/atomic.StoreUint32", "sync/atomic.AddInt64", "sync/atomic.LoadPointer", "sync/atomic.CompareAndSwapPointer", "sync/atomic.CompareAndSwapInt64"], unfollowed := true, recurses := true, named := ["marline/sha.squares", "marline/sha.cubes"], apart := false, laid := [("marline/sha.cubes", laid_marline_sha_cubes), ("marline/sha.squares", laid_marline_sha_squares)] }
def CellCountsSaid : Prop := cellCountsRow.holds Tryd.pinned (OpenSpec.ofChange cellCountsSpec)

/-- ITS FALSE NEIGHBOUR: 'it returns false'. Refute it at one input. -/
def cellCountsWrong : ChangeSpec := { name := "cellCounts", fn := fun _ => fun
  | [d] => { results := [.lit (.bool false)], args := [d] }
  | _ => none }
def CellCountsWrongFalsely : Prop := cellCountsRow.holds Tryd.pinned (OpenSpec.ofChange cellCountsWrong)

/-- 'marlaw3.CellTakes': WHATEVER THE INPUT: true; the input reads as it did. -/
def cellTakesSpec : ChangeSpec := { name := "cellTakes", fn := fun _ => fun
  | [d1, d2] => { results := [.lit (.bool true)], args := [d1, d2] }
  | _ => none }
def cellTakesRow : OpenClaim := { program := "ytcgdpchekmapfaadoor", sum := "cec3fd7fb5ae6e019d332a308dba3a074ca5b9571dd1065272a553337d16d721", func := "marline/marlaw3.CellTakes", spec := "cellTakes", inPlace := ["sync/atomic.StorePointer", "sync/atomic.LoadInt64", "sync/atomic.LoadUint32", "(*internal/sync.Mutex).Lock", "internal/race.Disable", "sync/atomic.CompareAndSwapInt32", "internal/race.Enable", "internal/race.Acquire", "(*internal/sync.Mutex).lockSlow", "internal/sync.runtime_canSpin", "internal/sync.runtime_doSpin", "internal/sync.throw", "internal/sync.runtime_nanotime", "internal/sync.runtime_SemacquireMutex", "sync/atomic.AddInt32", "(*internal/sync.Mutex).Unlock", "internal/race.ReleaseMerge", "(*internal/sync.Mutex).unlockSlow", "internal/sync.fatal", "internal/sync.runtime_Semrelease", "sync/atomic.StoreUint32", "sync/atomic.AddInt64", "sync/atomic.LoadPointer", "sync/atomic.CompareAndSwapPointer", "sync/atomic.CompareAndSwapInt64"], unfollowed := true, recurses := true, named := ["marline/sha.squares", "marline/sha.cubes"], apart := false, laid := [("marline/sha.cubes", laid_marline_sha_cubes), ("marline/sha.squares", laid_marline_sha_squares)] }
def CellTakesSaid : Prop := cellTakesRow.holds Tryd.pinned (OpenSpec.ofChange cellTakesSpec)

/-- ITS FALSE NEIGHBOUR: 'it returns false'. Refute it at one input. -/
def cellTakesWrong : ChangeSpec := { name := "cellTakes", fn := fun _ => fun
  | [d1, d2] => { results := [.lit (.bool false)], args := [d1, d2] }
  | _ => none }
def CellTakesWrongFalsely : Prop := cellTakesRow.holds Tryd.pinned (OpenSpec.ofChange cellTakesWrong)

/-- 'marlaw6.ObjBack': WHATEVER THE INPUT: true; the input reads as it did. -/
def objBackSpec : ChangeSpec := { name := "objBack", fn := fun _ => fun
  | [d1, d2] => { results := [.lit (.bool true)], args := [d1, d2] }
  | _ => none }
def objBackRow : OpenClaim := { program := "ytcgdpchekmapfaadoor", sum := "cec3fd7fb5ae6e019d332a308dba3a074ca5b9571dd1065272a553337d16d721", func := "marline/marlaw6.ObjBack", spec := "objBack", inPlace := ["internal/bytealg.IndexByteString", "sync/atomic.LoadUint32", "(*internal/sync.Mutex).Lock", "internal/race.Disable", "sync/atomic.CompareAndSwapInt32", "internal/race.Enable", "internal/race.Acquire", "(*internal/sync.Mutex).lockSlow", "internal/sync.runtime_canSpin", "internal/sync.runtime_doSpin", "internal/sync.throw", "internal/sync.runtime_nanotime", "internal/sync.runtime_SemacquireMutex", "sync/atomic.AddInt32", "(*internal/sync.Mutex).Unlock", "internal/race.ReleaseMerge", "(*internal/sync.Mutex).unlockSlow", "internal/sync.fatal", "internal/sync.runtime_Semrelease", "sync/atomic.StoreUint32"], unfollowed := true, recurses := true, named := ["marline/sha.squares", "marline/sha.cubes"], apart := false, laid := [("marline/sha.cubes", laid_marline_sha_cubes), ("marline/sha.squares", laid_marline_sha_squares)] }
def ObjBackSaid : Prop := objBackRow.holds Tryd.pinned (OpenSpec.ofChange objBackSpec)

/-- ITS FALSE NEIGHBOUR: 'it returns false'. Refute it at one input. -/
def objBackWrong : ChangeSpec := { name := "objBack", fn := fun _ => fun
  | [d1, d2] => { results := [.lit (.bool false)], args := [d1, d2] }
  | _ => none }
def ObjBackWrongFalsely : Prop := objBackRow.holds Tryd.pinned (OpenSpec.ofChange objBackWrong)

/- THE SECOND FORM. 'bulk': how many values and letters a reading holds, each counted each time it is reached (what is shared counts as often as it is met; a slice's spare places count too). A statement '..UptoSaid' is the law's where the arguments, and the package variables that the reading takes, are together of bulk at most 1048576: NARROWER than '..Said'. Prove '..Said' where nothing that the law and all that it calls make is longer than what came in: it says more and counts as full. Else prove '..UptoSaid'. A law counts once. -/
mutual
def uptoBulk {H : Type} : DataW H → Nat
  | .lit (.string bytes) => bytes.length + 1
  | .lit _ => 1
  | .nil => 1
  | .ptr d => uptoBulk d + 1
  | .slice elems spare => uptoBulkAll elems + uptoBulkAll spare + 1
  | .agg parts => uptoBulkAll parts + 1
  | .iface _ d => uptoBulk d + 1
  | .map entries => uptoBulkEntries entries + 1
  | .held _ => 1
def uptoBulkAll {H : Type} : List (DataW H) → Nat
  | [] => 0
  | d :: r => uptoBulk d + uptoBulkAll r
def uptoBulkEntries {H : Type} : List (Lit × DataW H) → Nat
  | [] => 0
  | x :: r => uptoBulkEntry x + uptoBulkEntries r
def uptoBulkEntry {H : Type} : Lit × DataW H → Nat
  | (.string bytes, d) => bytes.length + uptoBulk d + 1
  | (_, d) => uptoBulk d + 1
 end
def uptoSmall : (H : Type) → List (DataW H) → Bool := fun _ ds => decide (uptoBulkAll ds ≤ 1048576)
def OpenSpec.upto (s : _root_.Go.ChangeSpec) : _root_.Go.OpenSpec := { _root_.Go.OpenSpec.ofChange s with cond := some uptoSmall }

/-- 'marlaw1.ShaOwn', WHERE WHAT IT READS IS OF BULK AT MOST 1048576: true; the input reads as it did. -/
def shaOwnUptoRow : OpenClaim := { program := "ytcgdpchekmapfaadoor", sum := "cec3fd7fb5ae6e019d332a308dba3a074ca5b9571dd1065272a553337d16d721", func := "marline/marlaw1.ShaOwn", spec := "shaOwn", inPlace := ["sync/atomic.LoadUint32", "(*internal/sync.Mutex).Lock", "internal/race.Disable", "sync/atomic.CompareAndSwapInt32", "internal/race.Enable", "internal/race.Acquire", "(*internal/sync.Mutex).lockSlow", "internal/sync.runtime_canSpin", "internal/sync.runtime_doSpin", "internal/sync.throw", "internal/sync.runtime_nanotime", "internal/sync.runtime_SemacquireMutex", "sync/atomic.AddInt32", "(*internal/sync.Mutex).Unlock", "internal/race.ReleaseMerge", "(*internal/sync.Mutex).unlockSlow", "internal/sync.fatal", "internal/sync.runtime_Semrelease", "sync/atomic.StoreUint32"], unfollowed := true, recurses := true, named := ["marline/sha.squares", "marline/sha.cubes"], apart := false, laid := [("marline/sha.cubes", laid_marline_sha_cubes), ("marline/sha.squares", laid_marline_sha_squares)], narrowed := true }
def ShaOwnUptoSaid : Prop := shaOwnUptoRow.holds Tryd.pinned (OpenSpec.upto shaOwnSpec)

/-- 'marlaw1.ShaPieces', WHERE WHAT IT READS IS OF BULK AT MOST 1048576: true; the input reads as it did. -/
def shaPiecesUptoRow : OpenClaim := { program := "ytcgdpchekmapfaadoor", sum := "cec3fd7fb5ae6e019d332a308dba3a074ca5b9571dd1065272a553337d16d721", func := "marline/marlaw1.ShaPieces", spec := "shaPieces", inPlace := ["sync/atomic.LoadUint32", "(*internal/sync.Mutex).Lock", "internal/race.Disable", "sync/atomic.CompareAndSwapInt32", "internal/race.Enable", "internal/race.Acquire", "(*internal/sync.Mutex).lockSlow", "internal/sync.runtime_canSpin", "internal/sync.runtime_doSpin", "internal/sync.throw", "internal/sync.runtime_nanotime", "internal/sync.runtime_SemacquireMutex", "sync/atomic.AddInt32", "(*internal/sync.Mutex).Unlock", "internal/race.ReleaseMerge", "(*internal/sync.Mutex).unlockSlow", "internal/sync.fatal", "internal/sync.runtime_Semrelease", "sync/atomic.StoreUint32"], unfollowed := true, recurses := true, named := ["marline/sha.squares", "marline/sha.cubes"], apart := false, laid := [("marline/sha.cubes", laid_marline_sha_cubes), ("marline/sha.squares", laid_marline_sha_squares)], narrowed := true }
def ShaPiecesUptoSaid : Prop := shaPiecesUptoRow.holds Tryd.pinned (OpenSpec.upto shaPiecesSpec)

/-- 'marlaw1.ShaCopies', WHERE WHAT IT READS IS OF BULK AT MOST 1048576: true; the input reads as it did. -/
def shaCopiesUptoRow : OpenClaim := { program := "ytcgdpchekmapfaadoor", sum := "cec3fd7fb5ae6e019d332a308dba3a074ca5b9571dd1065272a553337d16d721", func := "marline/marlaw1.ShaCopies", spec := "shaCopies", inPlace := ["sync/atomic.LoadUint32", "(*internal/sync.Mutex).Lock", "internal/race.Disable", "sync/atomic.CompareAndSwapInt32", "internal/race.Enable", "internal/race.Acquire", "(*internal/sync.Mutex).lockSlow", "internal/sync.runtime_canSpin", "internal/sync.runtime_doSpin", "internal/sync.throw", "internal/sync.runtime_nanotime", "internal/sync.runtime_SemacquireMutex", "sync/atomic.AddInt32", "(*internal/sync.Mutex).Unlock", "internal/race.ReleaseMerge", "(*internal/sync.Mutex).unlockSlow", "internal/sync.fatal", "internal/sync.runtime_Semrelease", "sync/atomic.StoreUint32"], unfollowed := true, recurses := true, named := ["marline/sha.squares", "marline/sha.cubes"], apart := false, laid := [("marline/sha.cubes", laid_marline_sha_cubes), ("marline/sha.squares", laid_marline_sha_squares)], narrowed := true }
def ShaCopiesUptoSaid : Prop := shaCopiesUptoRow.holds Tryd.pinned (OpenSpec.upto shaCopiesSpec)

/-- 'marlaw1.ShaLike', WHERE WHAT IT READS IS OF BULK AT MOST 1048576: true; the input reads as it did. -/
def shaLikeUptoRow : OpenClaim := { program := "ytcgdpchekmapfaadoor", sum := "cec3fd7fb5ae6e019d332a308dba3a074ca5b9571dd1065272a553337d16d721", func := "marline/marlaw1.ShaLike", spec := "shaLike", inPlace := ["sync/atomic.LoadUint32", "(*internal/sync.Mutex).Lock", "internal/race.Disable", "sync/atomic.CompareAndSwapInt32", "internal/race.Enable", "internal/race.Acquire", "(*internal/sync.Mutex).lockSlow", "internal/sync.runtime_canSpin", "internal/sync.runtime_doSpin", "internal/sync.throw", "internal/sync.runtime_nanotime", "internal/sync.runtime_SemacquireMutex", "sync/atomic.AddInt32", "(*internal/sync.Mutex).Unlock", "internal/race.ReleaseMerge", "(*internal/sync.Mutex).unlockSlow", "internal/sync.fatal", "internal/sync.runtime_Semrelease", "sync/atomic.StoreUint32", "internal/bytealg.IndexByteString"], unfollowed := true, recurses := true, named := ["marline/sha.squares", "marline/sha.cubes"], apart := false, laid := [("marline/sha.cubes", laid_marline_sha_cubes), ("marline/sha.squares", laid_marline_sha_squares)], narrowed := true }
def ShaLikeUptoSaid : Prop := shaLikeUptoRow.holds Tryd.pinned (OpenSpec.upto shaLikeSpec)

/-- 'marlaw1.ShaSums', WHERE WHAT IT READS IS OF BULK AT MOST 1048576: true; the input reads as it did. -/
def shaSumsUptoRow : OpenClaim := { program := "ytcgdpchekmapfaadoor", sum := "cec3fd7fb5ae6e019d332a308dba3a074ca5b9571dd1065272a553337d16d721", func := "marline/marlaw1.ShaSums", spec := "shaSums", inPlace := ["sync/atomic.LoadUint32", "(*internal/sync.Mutex).Lock", "internal/race.Disable", "sync/atomic.CompareAndSwapInt32", "internal/race.Enable", "internal/race.Acquire", "(*internal/sync.Mutex).lockSlow", "internal/sync.runtime_canSpin", "internal/sync.runtime_doSpin", "internal/sync.throw", "internal/sync.runtime_nanotime", "internal/sync.runtime_SemacquireMutex", "sync/atomic.AddInt32", "(*internal/sync.Mutex).Unlock", "internal/race.ReleaseMerge", "(*internal/sync.Mutex).unlockSlow", "internal/sync.fatal", "internal/sync.runtime_Semrelease", "sync/atomic.StoreUint32", "internal/bytealg.IndexByteString"], unfollowed := true, recurses := true, named := ["marline/sha.squares", "marline/sha.cubes"], apart := false, laid := [("marline/sha.cubes", laid_marline_sha_cubes), ("marline/sha.squares", laid_marline_sha_squares)], narrowed := true }
def ShaSumsUptoSaid : Prop := shaSumsUptoRow.holds Tryd.pinned (OpenSpec.upto shaSumsSpec)

/-- 'marlaw1.ShaBack', WHERE WHAT IT READS IS OF BULK AT MOST 1048576: true; the input reads as it did. -/
def shaBackUptoRow : OpenClaim := { program := "ytcgdpchekmapfaadoor", sum := "cec3fd7fb5ae6e019d332a308dba3a074ca5b9571dd1065272a553337d16d721", func := "marline/marlaw1.ShaBack", spec := "shaBack", inPlace := ["sync/atomic.LoadUint32", "(*internal/sync.Mutex).Lock", "internal/race.Disable", "sync/atomic.CompareAndSwapInt32", "internal/race.Enable", "internal/race.Acquire", "(*internal/sync.Mutex).lockSlow", "internal/sync.runtime_canSpin", "internal/sync.runtime_doSpin", "internal/sync.throw", "internal/sync.runtime_nanotime", "internal/sync.runtime_SemacquireMutex", "sync/atomic.AddInt32", "(*internal/sync.Mutex).Unlock", "internal/race.ReleaseMerge", "(*internal/sync.Mutex).unlockSlow", "internal/sync.fatal", "internal/sync.runtime_Semrelease", "sync/atomic.StoreUint32", "internal/bytealg.IndexByteString"], unfollowed := true, recurses := true, named := ["marline/sha.squares", "marline/sha.cubes"], apart := false, laid := [("marline/sha.cubes", laid_marline_sha_cubes), ("marline/sha.squares", laid_marline_sha_squares)], narrowed := true }
def ShaBackUptoSaid : Prop := shaBackUptoRow.holds Tryd.pinned (OpenSpec.upto shaBackSpec)

/-- 'marlaw3.CellAfter', WHERE WHAT IT READS IS OF BULK AT MOST 1048576: true; the input reads as it did. -/
def cellAfterUptoRow : OpenClaim := { program := "ytcgdpchekmapfaadoor", sum := "cec3fd7fb5ae6e019d332a308dba3a074ca5b9571dd1065272a553337d16d721", func := "marline/marlaw3.CellAfter", spec := "cellAfter", inPlace := ["sync/atomic.StorePointer", "sync/atomic.LoadInt64", "sync/atomic.LoadUint32", "(*internal/sync.Mutex).Lock", "internal/race.Disable", "sync/atomic.CompareAndSwapInt32", "internal/race.Enable", "internal/race.Acquire", "(*internal/sync.Mutex).lockSlow", "internal/sync.runtime_canSpin", "internal/sync.runtime_doSpin", "internal/sync.throw", "internal/sync.runtime_nanotime", "internal/sync.runtime_SemacquireMutex", "sync/atomic.AddInt32", "(*internal/sync.Mutex).Unlock", "internal/race.ReleaseMerge", "(*internal/sync.Mutex).unlockSlow", "internal/sync.fatal", "internal/sync.runtime_Semrelease", "sync/atomic.StoreUint32", "sync/atomic.AddInt64", "sync/atomic.LoadPointer", "sync/atomic.CompareAndSwapPointer"], unfollowed := true, recurses := true, named := ["marline/sha.squares", "marline/sha.cubes"], apart := false, laid := [("marline/sha.cubes", laid_marline_sha_cubes), ("marline/sha.squares", laid_marline_sha_squares)], narrowed := true }
def CellAfterUptoSaid : Prop := cellAfterUptoRow.holds Tryd.pinned (OpenSpec.upto cellAfterSpec)

/-- 'marlaw3.CellLazy', WHERE WHAT IT READS IS OF BULK AT MOST 1048576: true; the input reads as it did. -/
def cellLazyUptoRow : OpenClaim := { program := "ytcgdpchekmapfaadoor", sum := "cec3fd7fb5ae6e019d332a308dba3a074ca5b9571dd1065272a553337d16d721", func := "marline/marlaw3.CellLazy", spec := "cellLazy", inPlace := ["sync/atomic.StorePointer", "sync/atomic.LoadInt64", "sync/atomic.LoadUint32", "(*internal/sync.Mutex).Lock", "internal/race.Disable", "sync/atomic.CompareAndSwapInt32", "internal/race.Enable", "internal/race.Acquire", "(*internal/sync.Mutex).lockSlow", "internal/sync.runtime_canSpin", "internal/sync.runtime_doSpin", "internal/sync.throw", "internal/sync.runtime_nanotime", "internal/sync.runtime_SemacquireMutex", "sync/atomic.AddInt32", "(*internal/sync.Mutex).Unlock", "internal/race.ReleaseMerge", "(*internal/sync.Mutex).unlockSlow", "internal/sync.fatal", "internal/sync.runtime_Semrelease", "sync/atomic.StoreUint32", "sync/atomic.AddInt64", "sync/atomic.LoadPointer", "sync/atomic.CompareAndSwapPointer"], unfollowed := true, recurses := true, named := ["marline/sha.squares", "marline/sha.cubes"], apart := false, laid := [("marline/sha.cubes", laid_marline_sha_cubes), ("marline/sha.squares", laid_marline_sha_squares)], narrowed := true }
def CellLazyUptoSaid : Prop := cellLazyUptoRow.holds Tryd.pinned (OpenSpec.upto cellLazySpec)

/-- 'marlaw3.CellSwaps', WHERE WHAT IT READS IS OF BULK AT MOST 1048576: true; the input reads as it did. -/
def cellSwapsUptoRow : OpenClaim := { program := "ytcgdpchekmapfaadoor", sum := "cec3fd7fb5ae6e019d332a308dba3a074ca5b9571dd1065272a553337d16d721", func := "marline/marlaw3.CellSwaps", spec := "cellSwaps", inPlace := ["sync/atomic.StorePointer", "sync/atomic.LoadInt64", "sync/atomic.LoadUint32", "(*internal/sync.Mutex).Lock", "internal/race.Disable", "sync/atomic.CompareAndSwapInt32", "internal/race.Enable", "internal/race.Acquire", "(*internal/sync.Mutex).lockSlow", "internal/sync.runtime_canSpin", "internal/sync.runtime_doSpin", "internal/sync.throw", "internal/sync.runtime_nanotime", "internal/sync.runtime_SemacquireMutex", "sync/atomic.AddInt32", "(*internal/sync.Mutex).Unlock", "internal/race.ReleaseMerge", "(*internal/sync.Mutex).unlockSlow", "internal/sync.fatal", "internal/sync.runtime_Semrelease", "sync/atomic.StoreUint32", "sync/atomic.AddInt64", "sync/atomic.LoadPointer", "sync/atomic.CompareAndSwapPointer", "sync/atomic.SwapPointer"], unfollowed := true, recurses := true, named := ["marline/sha.squares", "marline/sha.cubes"], apart := false, laid := [("marline/sha.cubes", laid_marline_sha_cubes), ("marline/sha.squares", laid_marline_sha_squares)], narrowed := true }
def CellSwapsUptoSaid : Prop := cellSwapsUptoRow.holds Tryd.pinned (OpenSpec.upto cellSwapsSpec)

/-- 'marlaw3.CellCounts', WHERE WHAT IT READS IS OF BULK AT MOST 1048576: true; the input reads as it did. -/
def cellCountsUptoRow : OpenClaim := { program := "ytcgdpchekmapfaadoor", sum := "cec3fd7fb5ae6e019d332a308dba3a074ca5b9571dd1065272a553337d16d721", func := "marline/marlaw3.CellCounts", spec := "cellCounts", inPlace := ["sync/atomic.StorePointer", "sync/atomic.LoadInt64", "sync/atomic.LoadUint32", "(*internal/sync.Mutex).Lock", "internal/race.Disable", "sync/atomic.CompareAndSwapInt32", "internal/race.Enable", "internal/race.Acquire", "(*internal/sync.Mutex).lockSlow", "internal/sync.runtime_canSpin", "internal/sync.runtime_doSpin", "internal/sync.throw", "internal/sync.runtime_nanotime", "internal/sync.runtime_SemacquireMutex", "sync/atomic.AddInt32", "(*internal/sync.Mutex).Unlock", "internal/race.ReleaseMerge", "(*internal/sync.Mutex).unlockSlow", "internal/sync.fatal", "internal/sync.runtime_Semrelease", "sync/atomic.StoreUint32", "sync/atomic.AddInt64", "sync/atomic.LoadPointer", "sync/atomic.CompareAndSwapPointer", "sync/atomic.CompareAndSwapInt64"], unfollowed := true, recurses := true, named := ["marline/sha.squares", "marline/sha.cubes"], apart := false, laid := [("marline/sha.cubes", laid_marline_sha_cubes), ("marline/sha.squares", laid_marline_sha_squares)], narrowed := true }
def CellCountsUptoSaid : Prop := cellCountsUptoRow.holds Tryd.pinned (OpenSpec.upto cellCountsSpec)

/-- 'marlaw3.CellTakes', WHERE WHAT IT READS IS OF BULK AT MOST 1048576: true; the input reads as it did. -/
def cellTakesUptoRow : OpenClaim := { program := "ytcgdpchekmapfaadoor", sum := "cec3fd7fb5ae6e019d332a308dba3a074ca5b9571dd1065272a553337d16d721", func := "marline/marlaw3.CellTakes", spec := "cellTakes", inPlace := ["sync/atomic.StorePointer", "sync/atomic.LoadInt64", "sync/atomic.LoadUint32", "(*internal/sync.Mutex).Lock", "internal/race.Disable", "sync/atomic.CompareAndSwapInt32", "internal/race.Enable", "internal/race.Acquire", "(*internal/sync.Mutex).lockSlow", "internal/sync.runtime_canSpin", "internal/sync.runtime_doSpin", "internal/sync.throw", "internal/sync.runtime_nanotime", "internal/sync.runtime_SemacquireMutex", "sync/atomic.AddInt32", "(*internal/sync.Mutex).Unlock", "internal/race.ReleaseMerge", "(*internal/sync.Mutex).unlockSlow", "internal/sync.fatal", "internal/sync.runtime_Semrelease", "sync/atomic.StoreUint32", "sync/atomic.AddInt64", "sync/atomic.LoadPointer", "sync/atomic.CompareAndSwapPointer", "sync/atomic.CompareAndSwapInt64"], unfollowed := true, recurses := true, named := ["marline/sha.squares", "marline/sha.cubes"], apart := false, laid := [("marline/sha.cubes", laid_marline_sha_cubes), ("marline/sha.squares", laid_marline_sha_squares)], narrowed := true }
def CellTakesUptoSaid : Prop := cellTakesUptoRow.holds Tryd.pinned (OpenSpec.upto cellTakesSpec)

/-- 'marlaw6.ObjBack', WHERE WHAT IT READS IS OF BULK AT MOST 1048576: true; the input reads as it did. -/
def objBackUptoRow : OpenClaim := { program := "ytcgdpchekmapfaadoor", sum := "cec3fd7fb5ae6e019d332a308dba3a074ca5b9571dd1065272a553337d16d721", func := "marline/marlaw6.ObjBack", spec := "objBack", inPlace := ["internal/bytealg.IndexByteString", "sync/atomic.LoadUint32", "(*internal/sync.Mutex).Lock", "internal/race.Disable", "sync/atomic.CompareAndSwapInt32", "internal/race.Enable", "internal/race.Acquire", "(*internal/sync.Mutex).lockSlow", "internal/sync.runtime_canSpin", "internal/sync.runtime_doSpin", "internal/sync.throw", "internal/sync.runtime_nanotime", "internal/sync.runtime_SemacquireMutex", "sync/atomic.AddInt32", "(*internal/sync.Mutex).Unlock", "internal/race.ReleaseMerge", "(*internal/sync.Mutex).unlockSlow", "internal/sync.fatal", "internal/sync.runtime_Semrelease", "sync/atomic.StoreUint32"], unfollowed := true, recurses := true, named := ["marline/sha.squares", "marline/sha.cubes"], apart := false, laid := [("marline/sha.cubes", laid_marline_sha_cubes), ("marline/sha.squares", laid_marline_sha_squares)], narrowed := true }
def ObjBackUptoSaid : Prop := objBackUptoRow.holds Tryd.pinned (OpenSpec.upto objBackSpec)

end Rows
end Go.Proofs.YtcgdpchekmapfaaDoor
