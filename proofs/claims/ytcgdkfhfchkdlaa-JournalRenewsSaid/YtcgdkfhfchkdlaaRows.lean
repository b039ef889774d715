/-
  No cell of these rows narrows 'for every input' (looked for: loops, veiled, ifaces, maps, wideKeys, modest, calm, conditions, laid).
  DERIVED. THE GIVEN ROWS OF THIS SEAT. 26 by the template 'for every input the law returns true; each argument reads behind the call as it read before'; 0 by the template 'total and deterministic' (their statements: YtcgdkfhfchkdlaaTotals.lean).
  GIVEN WITH THE SEED: the statements are not yours to turn. If you find one false, say at which input.
  Laid BY PROGRAM, IN A SANDBOX (cutbox-rows.mjs): the forced cells as the released guide's own fill.sh prints them over the translation 8f8ee7a915b87436… (all of the seat's roots in one cut). By AI agents, Wed Nov 11 2026. No macro, syntax, notation, axiom, sorry.
-/
import Derived.Test.YtcgdkfhfchkdlaaChecked
import GoSem.Claim
import GoSem.ClaimJoined
import GoSem.ClaimMapViews
import Derived.JoinedTies
import Derived.KernelRfl
namespace Go.Proofs.Ytcgdkfhfchkdlaa
/- THE CELL 'sum', in the pinned program and in every row, IS THE sha256 OF THE DUMP (.gsa) THAT YtcgdkfhfchkdlaaProg.lean LOADS. Nothing in Lean hashes anything: it is a label: what it is worth is what the hold of that sum in a sandbox is worth. -/
noncomputable def Try.pinned : Pinned := { name := "ytcgdkfhfchkdlaa", sum := "8f8ee7a915b87436576dc0eab8a7f0e3be79e9752de91ace38ce15dc2abe1bc0", checked := Try.checked }
namespace Rows
def none {H : Type} : Left H := { results := [], args := [] }

/-- 'tributarylaw19.ReserveNeeds': WHATEVER THE INPUT: true; the input reads as it did. -/
def reserveNeedsSpec : ChangeSpec := { name := "reserveNeeds", fn := fun _ => fun
  | [d1, d2, d3] => { results := [.lit (.bool true)], args := [d1, d2, d3] }
  | _ => none }
def reserveNeedsRow : OpenClaim := { program := "ytcgdkfhfchkdlaa", sum := "8f8ee7a915b87436576dc0eab8a7f0e3be79e9752de91ace38ce15dc2abe1bc0", func := "tributary/tributarylaw19.ReserveNeeds", spec := "reserveNeeds", apart := false }
def ReserveNeedsSaid : Prop := reserveNeedsRow.holds Try.pinned (OpenSpec.ofChange reserveNeedsSpec)

/-- ITS FALSE NEIGHBOUR: 'it returns false'. Refute it at one input. -/
def reserveNeedsWrong : ChangeSpec := { name := "reserveNeeds", fn := fun _ => fun
  | [d1, d2, d3] => { results := [.lit (.bool false)], args := [d1, d2, d3] }
  | _ => none }
def ReserveNeedsWrongFalsely : Prop := reserveNeedsRow.holds Try.pinned (OpenSpec.ofChange reserveNeedsWrong)

/-- 'tributarylaw03.CrcIs': WHATEVER THE INPUT: true; the input reads as it did. -/
def crcIsSpec : ChangeSpec := { name := "crcIs", fn := fun _ => fun
  | [d] => { results := [.lit (.bool true)], args := [d] }
  | _ => none }
def crcIsRow : OpenClaim := { program := "ytcgdkfhfchkdlaa", sum := "8f8ee7a915b87436576dc0eab8a7f0e3be79e9752de91ace38ce15dc2abe1bc0", func := "tributary/tributarylaw03.CrcIs", spec := "crcIs", apart := false }
def CrcIsSaid : Prop := crcIsRow.holds Try.pinned (OpenSpec.ofChange crcIsSpec)

/-- ITS FALSE NEIGHBOUR: 'it returns false'. Refute it at one input. -/
def crcIsWrong : ChangeSpec := { name := "crcIs", fn := fun _ => fun
  | [d] => { results := [.lit (.bool false)], args := [d] }
  | _ => none }
def CrcIsWrongFalsely : Prop := crcIsRow.holds Try.pinned (OpenSpec.ofChange crcIsWrong)

/-- 'tributarylaw03.CrcOther': WHATEVER THE INPUT: true; the input reads as it did. -/
def crcOtherSpec : ChangeSpec := { name := "crcOther", fn := fun _ => fun
  | [d1, d2, d3] => { results := [.lit (.bool true)], args := [d1, d2, d3] }
  | _ => none }
def crcOtherRow : OpenClaim := { program := "ytcgdkfhfchkdlaa", sum := "8f8ee7a915b87436576dc0eab8a7f0e3be79e9752de91ace38ce15dc2abe1bc0", func := "tributary/tributarylaw03.CrcOther", spec := "crcOther", apart := false }
def CrcOtherSaid : Prop := crcOtherRow.holds Try.pinned (OpenSpec.ofChange crcOtherSpec)

/-- ITS FALSE NEIGHBOUR: 'it returns false'. Refute it at one input. -/
def crcOtherWrong : ChangeSpec := { name := "crcOther", fn := fun _ => fun
  | [d1, d2, d3] => { results := [.lit (.bool false)], args := [d1, d2, d3] }
  | _ => none }
def CrcOtherWrongFalsely : Prop := crcOtherRow.holds Try.pinned (OpenSpec.ofChange crcOtherWrong)

/-- 'tributarylaw03.CrcBurst': WHATEVER THE INPUT: true; the input reads as it did. -/
def crcBurstSpec : ChangeSpec := { name := "crcBurst", fn := fun _ => fun
  | [d1, d2, d3] => { results := [.lit (.bool true)], args := [d1, d2, d3] }
  | _ => none }
def crcBurstRow : OpenClaim := { program := "ytcgdkfhfchkdlaa", sum := "8f8ee7a915b87436576dc0eab8a7f0e3be79e9752de91ace38ce15dc2abe1bc0", func := "tributary/tributarylaw03.CrcBurst", spec := "crcBurst", apart := false }
def CrcBurstSaid : Prop := crcBurstRow.holds Try.pinned (OpenSpec.ofChange crcBurstSpec)

/-- ITS FALSE NEIGHBOUR: 'it returns false'. Refute it at one input. -/
def crcBurstWrong : ChangeSpec := { name := "crcBurst", fn := fun _ => fun
  | [d1, d2, d3] => { results := [.lit (.bool false)], args := [d1, d2, d3] }
  | _ => none }
def CrcBurstWrongFalsely : Prop := crcBurstRow.holds Try.pinned (OpenSpec.ofChange crcBurstWrong)

/-- 'tributarylaw03.CrcAffine': WHATEVER THE INPUT: true; the input reads as it did. -/
def crcAffineSpec : ChangeSpec := { name := "crcAffine", fn := fun _ => fun
  | [d1, d2, d3] => { results := [.lit (.bool true)], args := [d1, d2, d3] }
  | _ => none }
def crcAffineRow : OpenClaim := { program := "ytcgdkfhfchkdlaa", sum := "8f8ee7a915b87436576dc0eab8a7f0e3be79e9752de91ace38ce15dc2abe1bc0", func := "tributary/tributarylaw03.CrcAffine", spec := "crcAffine", apart := false }
def CrcAffineSaid : Prop := crcAffineRow.holds Try.pinned (OpenSpec.ofChange crcAffineSpec)

/-- ITS FALSE NEIGHBOUR: 'it returns false'. Refute it at one input. -/
def crcAffineWrong : ChangeSpec := { name := "crcAffine", fn := fun _ => fun
  | [d1, d2, d3] => { results := [.lit (.bool false)], args := [d1, d2, d3] }
  | _ => none }
def CrcAffineWrongFalsely : Prop := crcAffineRow.holds Try.pinned (OpenSpec.ofChange crcAffineWrong)

/-- 'tributarylaw19.ReserveTo': WHATEVER THE INPUT: true; the input reads as it did. -/
def reserveToSpec : ChangeSpec := { name := "reserveTo", fn := fun _ => fun
  | [d1, d2, d3] => { results := [.lit (.bool true)], args := [d1, d2, d3] }
  | _ => none }
def reserveToRow : OpenClaim := { program := "ytcgdkfhfchkdlaa", sum := "8f8ee7a915b87436576dc0eab8a7f0e3be79e9752de91ace38ce15dc2abe1bc0", func := "tributary/tributarylaw19.ReserveTo", spec := "reserveTo", apart := false }
def ReserveToSaid : Prop := reserveToRow.holds Try.pinned (OpenSpec.ofChange reserveToSpec)

/-- ITS FALSE NEIGHBOUR: 'it returns false'. Refute it at one input. -/
def reserveToWrong : ChangeSpec := { name := "reserveTo", fn := fun _ => fun
  | [d1, d2, d3] => { results := [.lit (.bool false)], args := [d1, d2, d3] }
  | _ => none }
def ReserveToWrongFalsely : Prop := reserveToRow.holds Try.pinned (OpenSpec.ofChange reserveToWrong)

/-- 'tributarylaw03.CrcHash': WHATEVER THE INPUT: true; the input reads as it did. -/
def crcHashSpec : ChangeSpec := { name := "crcHash", fn := fun _ => fun
  | [d] => { results := [.lit (.bool true)], args := [d] }
  | _ => none }
def crcHashRow : OpenClaim := { program := "ytcgdkfhfchkdlaa", sum := "8f8ee7a915b87436576dc0eab8a7f0e3be79e9752de91ace38ce15dc2abe1bc0", func := "tributary/tributarylaw03.CrcHash", spec := "crcHash", apart := false }
def CrcHashSaid : Prop := crcHashRow.holds Try.pinned (OpenSpec.ofChange crcHashSpec)

/-- ITS FALSE NEIGHBOUR: 'it returns false'. Refute it at one input. -/
def crcHashWrong : ChangeSpec := { name := "crcHash", fn := fun _ => fun
  | [d] => { results := [.lit (.bool false)], args := [d] }
  | _ => none }
def CrcHashWrongFalsely : Prop := crcHashRow.holds Try.pinned (OpenSpec.ofChange crcHashWrong)

/-- 'tributarylaw04.FrameIs': WHATEVER THE INPUT: true; the input reads as it did. -/
def frameIsSpec : ChangeSpec := { name := "frameIs", fn := fun _ => fun
  | [d] => { results := [.lit (.bool true)], args := [d] }
  | _ => none }
def frameIsRow : OpenClaim := { program := "ytcgdkfhfchkdlaa", sum := "8f8ee7a915b87436576dc0eab8a7f0e3be79e9752de91ace38ce15dc2abe1bc0", func := "tributary/tributarylaw04.FrameIs", spec := "frameIs", apart := false }
def FrameIsSaid : Prop := frameIsRow.holds Try.pinned (OpenSpec.ofChange frameIsSpec)

/-- ITS FALSE NEIGHBOUR: 'it returns false'. Refute it at one input. -/
def frameIsWrong : ChangeSpec := { name := "frameIs", fn := fun _ => fun
  | [d] => { results := [.lit (.bool false)], args := [d] }
  | _ => none }
def FrameIsWrongFalsely : Prop := frameIsRow.holds Try.pinned (OpenSpec.ofChange frameIsWrong)

/-- 'tributarylaw19.ReserveGives': WHATEVER THE INPUT: true; the input reads as it did. -/
def reserveGivesSpec : ChangeSpec := { name := "reserveGives", fn := fun _ => fun
  | [d1, d2, d3] => { results := [.lit (.bool true)], args := [d1, d2, d3] }
  | _ => none }
def reserveGivesRow : OpenClaim := { program := "ytcgdkfhfchkdlaa", sum := "8f8ee7a915b87436576dc0eab8a7f0e3be79e9752de91ace38ce15dc2abe1bc0", func := "tributary/tributarylaw19.ReserveGives", spec := "reserveGives", apart := false }
def ReserveGivesSaid : Prop := reserveGivesRow.holds Try.pinned (OpenSpec.ofChange reserveGivesSpec)

/-- ITS FALSE NEIGHBOUR: 'it returns false'. Refute it at one input. -/
def reserveGivesWrong : ChangeSpec := { name := "reserveGives", fn := fun _ => fun
  | [d1, d2, d3] => { results := [.lit (.bool false)], args := [d1, d2, d3] }
  | _ => none }
def ReserveGivesWrongFalsely : Prop := reserveGivesRow.holds Try.pinned (OpenSpec.ofChange reserveGivesWrong)

/-- 'tributarylaw19.ReserveEnough': WHATEVER THE INPUT: true; the input reads as it did. -/
def reserveEnoughSpec : ChangeSpec := { name := "reserveEnough", fn := fun _ => fun
  | [d1, d2, d3] => { results := [.lit (.bool true)], args := [d1, d2, d3] }
  | _ => none }
def reserveEnoughRow : OpenClaim := { program := "ytcgdkfhfchkdlaa", sum := "8f8ee7a915b87436576dc0eab8a7f0e3be79e9752de91ace38ce15dc2abe1bc0", func := "tributary/tributarylaw19.ReserveEnough", spec := "reserveEnough", apart := false }
def ReserveEnoughSaid : Prop := reserveEnoughRow.holds Try.pinned (OpenSpec.ofChange reserveEnoughSpec)

/-- ITS FALSE NEIGHBOUR: 'it returns false'. Refute it at one input. -/
def reserveEnoughWrong : ChangeSpec := { name := "reserveEnough", fn := fun _ => fun
  | [d1, d2, d3] => { results := [.lit (.bool false)], args := [d1, d2, d3] }
  | _ => none }
def ReserveEnoughWrongFalsely : Prop := reserveEnoughRow.holds Try.pinned (OpenSpec.ofChange reserveEnoughWrong)

/-- 'tributarylaw19.ReserveOnce': WHATEVER THE INPUT: true; the input reads as it did. -/
def reserveOnceSpec : ChangeSpec := { name := "reserveOnce", fn := fun _ => fun
  | [d1, d2] => { results := [.lit (.bool true)], args := [d1, d2] }
  | _ => none }
def reserveOnceRow : OpenClaim := { program := "ytcgdkfhfchkdlaa", sum := "8f8ee7a915b87436576dc0eab8a7f0e3be79e9752de91ace38ce15dc2abe1bc0", func := "tributary/tributarylaw19.ReserveOnce", spec := "reserveOnce", apart := false }
def ReserveOnceSaid : Prop := reserveOnceRow.holds Try.pinned (OpenSpec.ofChange reserveOnceSpec)

/-- ITS FALSE NEIGHBOUR: 'it returns false'. Refute it at one input. -/
def reserveOnceWrong : ChangeSpec := { name := "reserveOnce", fn := fun _ => fun
  | [d1, d2] => { results := [.lit (.bool false)], args := [d1, d2] }
  | _ => none }
def ReserveOnceWrongFalsely : Prop := reserveOnceRow.holds Try.pinned (OpenSpec.ofChange reserveOnceWrong)

/-- 'tributarylaw04.FrameScans': WHATEVER THE INPUT: true; the input reads as it did. -/
def frameScansSpec : ChangeSpec := { name := "frameScans", fn := fun _ => fun
  | [d] => { results := [.lit (.bool true)], args := [d] }
  | _ => none }
def frameScansRow : OpenClaim := { program := "ytcgdkfhfchkdlaa", sum := "8f8ee7a915b87436576dc0eab8a7f0e3be79e9752de91ace38ce15dc2abe1bc0", func := "tributary/tributarylaw04.FrameScans", spec := "frameScans", apart := false }
def FrameScansSaid : Prop := frameScansRow.holds Try.pinned (OpenSpec.ofChange frameScansSpec)

/-- ITS FALSE NEIGHBOUR: 'it returns false'. Refute it at one input. -/
def frameScansWrong : ChangeSpec := { name := "frameScans", fn := fun _ => fun
  | [d] => { results := [.lit (.bool false)], args := [d] }
  | _ => none }
def FrameScansWrongFalsely : Prop := frameScansRow.holds Try.pinned (OpenSpec.ofChange frameScansWrong)

/-- 'tributarylaw04.FrameBack': WHATEVER THE INPUT: true; the input reads as it did. -/
def frameBackSpec : ChangeSpec := { name := "frameBack", fn := fun _ => fun
  | [d1, d2, d3] => { results := [.lit (.bool true)], args := [d1, d2, d3] }
  | _ => none }
def frameBackRow : OpenClaim := { program := "ytcgdkfhfchkdlaa", sum := "8f8ee7a915b87436576dc0eab8a7f0e3be79e9752de91ace38ce15dc2abe1bc0", func := "tributary/tributarylaw04.FrameBack", spec := "frameBack", apart := false }
def FrameBackSaid : Prop := frameBackRow.holds Try.pinned (OpenSpec.ofChange frameBackSpec)

/-- ITS FALSE NEIGHBOUR: 'it returns false'. Refute it at one input. -/
def frameBackWrong : ChangeSpec := { name := "frameBack", fn := fun _ => fun
  | [d1, d2, d3] => { results := [.lit (.bool false)], args := [d1, d2, d3] }
  | _ => none }
def FrameBackWrongFalsely : Prop := frameBackRow.holds Try.pinned (OpenSpec.ofChange frameBackWrong)

/-- 'tributarylaw04.FrameOne': WHATEVER THE INPUT: true; the input reads as it did. -/
def frameOneSpec : ChangeSpec := { name := "frameOne", fn := fun _ => fun
  | [d] => { results := [.lit (.bool true)], args := [d] }
  | _ => none }
def frameOneRow : OpenClaim := { program := "ytcgdkfhfchkdlaa", sum := "8f8ee7a915b87436576dc0eab8a7f0e3be79e9752de91ace38ce15dc2abe1bc0", func := "tributary/tributarylaw04.FrameOne", spec := "frameOne", apart := false }
def FrameOneSaid : Prop := frameOneRow.holds Try.pinned (OpenSpec.ofChange frameOneSpec)

/-- ITS FALSE NEIGHBOUR: 'it returns false'. Refute it at one input. -/
def frameOneWrong : ChangeSpec := { name := "frameOne", fn := fun _ => fun
  | [d] => { results := [.lit (.bool false)], args := [d] }
  | _ => none }
def FrameOneWrongFalsely : Prop := frameOneRow.holds Try.pinned (OpenSpec.ofChange frameOneWrong)

/-- 'tributarylaw04.FrameTurned': WHATEVER THE INPUT: true; the input reads as it did. -/
def frameTurnedSpec : ChangeSpec := { name := "frameTurned", fn := fun _ => fun
  | [d1, d2, d3] => { results := [.lit (.bool true)], args := [d1, d2, d3] }
  | _ => none }
def frameTurnedRow : OpenClaim := { program := "ytcgdkfhfchkdlaa", sum := "8f8ee7a915b87436576dc0eab8a7f0e3be79e9752de91ace38ce15dc2abe1bc0", func := "tributary/tributarylaw04.FrameTurned", spec := "frameTurned", apart := false }
def FrameTurnedSaid : Prop := frameTurnedRow.holds Try.pinned (OpenSpec.ofChange frameTurnedSpec)

/-- ITS FALSE NEIGHBOUR: 'it returns false'. Refute it at one input. -/
def frameTurnedWrong : ChangeSpec := { name := "frameTurned", fn := fun _ => fun
  | [d1, d2, d3] => { results := [.lit (.bool false)], args := [d1, d2, d3] }
  | _ => none }
def FrameTurnedWrongFalsely : Prop := frameTurnedRow.holds Try.pinned (OpenSpec.ofChange frameTurnedWrong)

/-- 'tributarylaw04.FrameCut': WHATEVER THE INPUT: true; the input reads as it did. -/
def frameCutSpec : ChangeSpec := { name := "frameCut", fn := fun _ => fun
  | [d1, d2, d3] => { results := [.lit (.bool true)], args := [d1, d2, d3] }
  | _ => none }
def frameCutRow : OpenClaim := { program := "ytcgdkfhfchkdlaa", sum := "8f8ee7a915b87436576dc0eab8a7f0e3be79e9752de91ace38ce15dc2abe1bc0", func := "tributary/tributarylaw04.FrameCut", spec := "frameCut", apart := false }
def FrameCutSaid : Prop := frameCutRow.holds Try.pinned (OpenSpec.ofChange frameCutSpec)

/-- ITS FALSE NEIGHBOUR: 'it returns false'. Refute it at one input. -/
def frameCutWrong : ChangeSpec := { name := "frameCut", fn := fun _ => fun
  | [d1, d2, d3] => { results := [.lit (.bool false)], args := [d1, d2, d3] }
  | _ => none }
def FrameCutWrongFalsely : Prop := frameCutRow.holds Try.pinned (OpenSpec.ofChange frameCutWrong)

/-- 'tributarylaw04.FrameNests': WHATEVER THE INPUT: true; the input reads as it did. -/
def frameNestsSpec : ChangeSpec := { name := "frameNests", fn := fun _ => fun
  | [d] => { results := [.lit (.bool true)], args := [d] }
  | _ => none }
def frameNestsRow : OpenClaim := { program := "ytcgdkfhfchkdlaa", sum := "8f8ee7a915b87436576dc0eab8a7f0e3be79e9752de91ace38ce15dc2abe1bc0", func := "tributary/tributarylaw04.FrameNests", spec := "frameNests", apart := false }
def FrameNestsSaid : Prop := frameNestsRow.holds Try.pinned (OpenSpec.ofChange frameNestsSpec)

/-- ITS FALSE NEIGHBOUR: 'it returns false'. Refute it at one input. -/
def frameNestsWrong : ChangeSpec := { name := "frameNests", fn := fun _ => fun
  | [d] => { results := [.lit (.bool false)], args := [d] }
  | _ => none }
def FrameNestsWrongFalsely : Prop := frameNestsRow.holds Try.pinned (OpenSpec.ofChange frameNestsWrong)

/-- 'tributarylaw17.TapeFuses': WHATEVER THE INPUT: true; the input reads as it did. -/
def tapeFusesSpec : ChangeSpec := { name := "tapeFuses", fn := fun _ => fun
  | [d1, d2] => { results := [.lit (.bool true)], args := [d1, d2] }
  | _ => none }
def tapeFusesRow : OpenClaim := { program := "ytcgdkfhfchkdlaa", sum := "8f8ee7a915b87436576dc0eab8a7f0e3be79e9752de91ace38ce15dc2abe1bc0", func := "tributary/tributarylaw17.TapeFuses", spec := "tapeFuses", apart := false }
def TapeFusesSaid : Prop := tapeFusesRow.holds Try.pinned (OpenSpec.ofChange tapeFusesSpec)

/-- ITS FALSE NEIGHBOUR: 'it returns false'. Refute it at one input. -/
def tapeFusesWrong : ChangeSpec := { name := "tapeFuses", fn := fun _ => fun
  | [d1, d2] => { results := [.lit (.bool false)], args := [d1, d2] }
  | _ => none }
def TapeFusesWrongFalsely : Prop := tapeFusesRow.holds Try.pinned (OpenSpec.ofChange tapeFusesWrong)

/-- 'tributarylaw17.TapePlays': WHATEVER THE INPUT: true; the input reads as it did. -/
def tapePlaysSpec : ChangeSpec := { name := "tapePlays", fn := fun _ => fun
  | [d1, d2] => { results := [.lit (.bool true)], args := [d1, d2] }
  | _ => none }
def tapePlaysRow : OpenClaim := { program := "ytcgdkfhfchkdlaa", sum := "8f8ee7a915b87436576dc0eab8a7f0e3be79e9752de91ace38ce15dc2abe1bc0", func := "tributary/tributarylaw17.TapePlays", spec := "tapePlays", apart := false }
def TapePlaysSaid : Prop := tapePlaysRow.holds Try.pinned (OpenSpec.ofChange tapePlaysSpec)

/-- ITS FALSE NEIGHBOUR: 'it returns false'. Refute it at one input. -/
def tapePlaysWrong : ChangeSpec := { name := "tapePlays", fn := fun _ => fun
  | [d1, d2] => { results := [.lit (.bool false)], args := [d1, d2] }
  | _ => none }
def TapePlaysWrongFalsely : Prop := tapePlaysRow.holds Try.pinned (OpenSpec.ofChange tapePlaysWrong)

/-- 'tributarylaw17.TapeKeeps': WHATEVER THE INPUT: true; the input reads as it did. -/
def tapeKeepsSpec : ChangeSpec := { name := "tapeKeeps", fn := fun _ => fun
  | [d1, d2, d3] => { results := [.lit (.bool true)], args := [d1, d2, d3] }
  | _ => none }
def tapeKeepsRow : OpenClaim := { program := "ytcgdkfhfchkdlaa", sum := "8f8ee7a915b87436576dc0eab8a7f0e3be79e9752de91ace38ce15dc2abe1bc0", func := "tributary/tributarylaw17.TapeKeeps", spec := "tapeKeeps", apart := false }
def TapeKeepsSaid : Prop := tapeKeepsRow.holds Try.pinned (OpenSpec.ofChange tapeKeepsSpec)

/-- ITS FALSE NEIGHBOUR: 'it returns false'. Refute it at one input. -/
def tapeKeepsWrong : ChangeSpec := { name := "tapeKeeps", fn := fun _ => fun
  | [d1, d2, d3] => { results := [.lit (.bool false)], args := [d1, d2, d3] }
  | _ => none }
def TapeKeepsWrongFalsely : Prop := tapeKeepsRow.holds Try.pinned (OpenSpec.ofChange tapeKeepsWrong)

/-- 'tributarylaw17.TapeOwn': WHATEVER THE INPUT: true; the input reads as it did. -/
def tapeOwnSpec : ChangeSpec := { name := "tapeOwn", fn := fun _ => fun
  | [d1, d2] => { results := [.lit (.bool true)], args := [d1, d2] }
  | _ => none }
def tapeOwnRow : OpenClaim := { program := "ytcgdkfhfchkdlaa", sum := "8f8ee7a915b87436576dc0eab8a7f0e3be79e9752de91ace38ce15dc2abe1bc0", func := "tributary/tributarylaw17.TapeOwn", spec := "tapeOwn", apart := false }
def TapeOwnSaid : Prop := tapeOwnRow.holds Try.pinned (OpenSpec.ofChange tapeOwnSpec)

/-- ITS FALSE NEIGHBOUR: 'it returns false'. Refute it at one input. -/
def tapeOwnWrong : ChangeSpec := { name := "tapeOwn", fn := fun _ => fun
  | [d1, d2] => { results := [.lit (.bool false)], args := [d1, d2] }
  | _ => none }
def TapeOwnWrongFalsely : Prop := tapeOwnRow.holds Try.pinned (OpenSpec.ofChange tapeOwnWrong)

/-- 'tributarylaw17.TapeNil': WHATEVER THE INPUT: true; the input reads as it did. -/
def tapeNilSpec : ChangeSpec := { name := "tapeNil", fn := fun _ => fun
  | [d1, d2, d3] => { results := [.lit (.bool true)], args := [d1, d2, d3] }
  | _ => none }
def tapeNilRow : OpenClaim := { program := "ytcgdkfhfchkdlaa", sum := "8f8ee7a915b87436576dc0eab8a7f0e3be79e9752de91ace38ce15dc2abe1bc0", func := "tributary/tributarylaw17.TapeNil", spec := "tapeNil", apart := false }
def TapeNilSaid : Prop := tapeNilRow.holds Try.pinned (OpenSpec.ofChange tapeNilSpec)

/-- ITS FALSE NEIGHBOUR: 'it returns false'. Refute it at one input. -/
def tapeNilWrong : ChangeSpec := { name := "tapeNil", fn := fun _ => fun
  | [d1, d2, d3] => { results := [.lit (.bool false)], args := [d1, d2, d3] }
  | _ => none }
def TapeNilWrongFalsely : Prop := tapeNilRow.holds Try.pinned (OpenSpec.ofChange tapeNilWrong)

/-- 'tributarylaw18.JournalRaw': WHATEVER THE INPUT: true; the input reads as it did. -/
def journalRawSpec : ChangeSpec := { name := "journalRaw", fn := fun _ => fun
  | [d1, d2] => { results := [.lit (.bool true)], args := [d1, d2] }
  | _ => none }
def journalRawRow : OpenClaim := { program := "ytcgdkfhfchkdlaa", sum := "8f8ee7a915b87436576dc0eab8a7f0e3be79e9752de91ace38ce15dc2abe1bc0", func := "tributary/tributarylaw18.JournalRaw", spec := "journalRaw", apart := false }
def JournalRawSaid : Prop := journalRawRow.holds Try.pinned (OpenSpec.ofChange journalRawSpec)

/-- ITS FALSE NEIGHBOUR: 'it returns false'. Refute it at one input. -/
def journalRawWrong : ChangeSpec := { name := "journalRaw", fn := fun _ => fun
  | [d1, d2] => { results := [.lit (.bool false)], args := [d1, d2] }
  | _ => none }
def JournalRawWrongFalsely : Prop := journalRawRow.holds Try.pinned (OpenSpec.ofChange journalRawWrong)

/-- 'tributarylaw18.JournalCrashes': WHATEVER THE INPUT: true; the input reads as it did. -/
def journalCrashesSpec : ChangeSpec := { name := "journalCrashes", fn := fun _ => fun
  | [d1, d2, d3, d4, d5] => { results := [.lit (.bool true)], args := [d1, d2, d3, d4, d5] }
  | _ => none }
def journalCrashesRow : OpenClaim := { program := "ytcgdkfhfchkdlaa", sum := "8f8ee7a915b87436576dc0eab8a7f0e3be79e9752de91ace38ce15dc2abe1bc0", func := "tributary/tributarylaw18.JournalCrashes", spec := "journalCrashes", apart := false }
def JournalCrashesSaid : Prop := journalCrashesRow.holds Try.pinned (OpenSpec.ofChange journalCrashesSpec)

/-- ITS FALSE NEIGHBOUR: 'it returns false'. Refute it at one input. -/
def journalCrashesWrong : ChangeSpec := { name := "journalCrashes", fn := fun _ => fun
  | [d1, d2, d3, d4, d5] => { results := [.lit (.bool false)], args := [d1, d2, d3, d4, d5] }
  | _ => none }
def JournalCrashesWrongFalsely : Prop := journalCrashesRow.holds Try.pinned (OpenSpec.ofChange journalCrashesWrong)

/-- 'tributarylaw18.JournalRenews': WHATEVER THE INPUT: true; the input reads as it did. -/
def journalRenewsSpec : ChangeSpec := { name := "journalRenews", fn := fun _ => fun
  | [d1, d2, d3, d4, d5, d6] => { results := [.lit (.bool true)], args := [d1, d2, d3, d4, d5, d6] }
  | _ => none }
def journalRenewsRow : OpenClaim := { program := "ytcgdkfhfchkdlaa", sum := "8f8ee7a915b87436576dc0eab8a7f0e3be79e9752de91ace38ce15dc2abe1bc0", func := "tributary/tributarylaw18.JournalRenews", spec := "journalRenews", apart := false }
def JournalRenewsSaid : Prop := journalRenewsRow.holds Try.pinned (OpenSpec.ofChange journalRenewsSpec)

/-- ITS FALSE NEIGHBOUR: 'it returns false'. Refute it at one input. -/
def journalRenewsWrong : ChangeSpec := { name := "journalRenews", fn := fun _ => fun
  | [d1, d2, d3, d4, d5, d6] => { results := [.lit (.bool false)], args := [d1, d2, d3, d4, d5, d6] }
  | _ => none }
def JournalRenewsWrongFalsely : Prop := journalRenewsRow.holds Try.pinned (OpenSpec.ofChange journalRenewsWrong)

/-- 'tributarylaw18.JournalPlays': WHATEVER THE INPUT: true; the input reads as it did. -/
def journalPlaysSpec : ChangeSpec := { name := "journalPlays", fn := fun _ => fun
  | [d1, d2, d3] => { results := [.lit (.bool true)], args := [d1, d2, d3] }
  | _ => none }
def journalPlaysRow : OpenClaim := { program := "ytcgdkfhfchkdlaa", sum := "8f8ee7a915b87436576dc0eab8a7f0e3be79e9752de91ace38ce15dc2abe1bc0", func := "tributary/tributarylaw18.JournalPlays", spec := "journalPlays", apart := false }
def JournalPlaysSaid : Prop := journalPlaysRow.holds Try.pinned (OpenSpec.ofChange journalPlaysSpec)

/-- ITS FALSE NEIGHBOUR: 'it returns false'. Refute it at one input. -/
def journalPlaysWrong : ChangeSpec := { name := "journalPlays", fn := fun _ => fun
  | [d1, d2, d3] => { results := [.lit (.bool false)], args := [d1, d2, d3] }
  | _ => none }
def JournalPlaysWrongFalsely : Prop := journalPlaysRow.holds Try.pinned (OpenSpec.ofChange journalPlaysWrong)

/- THE SECOND FORM. 'bulk': how many values and letters a reading holds, each counted each time it is reached (what is shared counts as often as it is met; a slice's spare places count too). A statement '..UptoSaid' is the law's where the arguments, and the package variables that the reading takes, are together of bulk at most 1048576: NARROWER than '..Said'. Prove '..Said' where nothing that the law and all that it calls make is longer than what came in: it says more and counts as full. Else prove '..UptoSaid'. A law counts once. -/
mutual
def uptoBulk {H : Type} : DataW H → Nat
  | .lit (.string bytes) => bytes.length + 1
  | .lit _ => 1
  | .nil => 1
  | .ptr d => uptoBulk d + 1
  | .slice elems spare => uptoBulkAll elems + uptoBulkAll spare + 1
  | .agg parts => uptoBulkAll parts + 1
  | .iface _ d => uptoBulk d + 1
  | .map entries => uptoBulkEntries entries + 1
  | .held _ => 1
def uptoBulkAll {H : Type} : List (DataW H) → Nat
  | [] => 0
  | d :: r => uptoBulk d + uptoBulkAll r
def uptoBulkEntries {H : Type} : List (Lit × DataW H) → Nat
  | [] => 0
  | x :: r => uptoBulkEntry x + uptoBulkEntries r
def uptoBulkEntry {H : Type} : Lit × DataW H → Nat
  | (.string bytes, d) => bytes.length + uptoBulk d + 1
  | (_, d) => uptoBulk d + 1
 end
def uptoSmall : (H : Type) → List (DataW H) → Bool := fun _ ds => decide (uptoBulkAll ds ≤ 1048576)
def OpenSpec.upto (s : _root_.Go.ChangeSpec) : _root_.Go.OpenSpec := { _root_.Go.OpenSpec.ofChange s with cond := some uptoSmall }

/-- 'tributarylaw19.ReserveNeeds', WHERE WHAT IT READS IS OF BULK AT MOST 1048576: true; the input reads as it did. -/
def reserveNeedsUptoRow : OpenClaim := { program := "ytcgdkfhfchkdlaa", sum := "8f8ee7a915b87436576dc0eab8a7f0e3be79e9752de91ace38ce15dc2abe1bc0", func := "tributary/tributarylaw19.ReserveNeeds", spec := "reserveNeeds", apart := false, narrowed := true }
def ReserveNeedsUptoSaid : Prop := reserveNeedsUptoRow.holds Try.pinned (OpenSpec.upto reserveNeedsSpec)

/-- 'tributarylaw03.CrcIs', WHERE WHAT IT READS IS OF BULK AT MOST 1048576: true; the input reads as it did. -/
def crcIsUptoRow : OpenClaim := { program := "ytcgdkfhfchkdlaa", sum := "8f8ee7a915b87436576dc0eab8a7f0e3be79e9752de91ace38ce15dc2abe1bc0", func := "tributary/tributarylaw03.CrcIs", spec := "crcIs", apart := false, narrowed := true }
def CrcIsUptoSaid : Prop := crcIsUptoRow.holds Try.pinned (OpenSpec.upto crcIsSpec)

/-- 'tributarylaw03.CrcOther', WHERE WHAT IT READS IS OF BULK AT MOST 1048576: true; the input reads as it did. -/
def crcOtherUptoRow : OpenClaim := { program := "ytcgdkfhfchkdlaa", sum := "8f8ee7a915b87436576dc0eab8a7f0e3be79e9752de91ace38ce15dc2abe1bc0", func := "tributary/tributarylaw03.CrcOther", spec := "crcOther", apart := false, narrowed := true }
def CrcOtherUptoSaid : Prop := crcOtherUptoRow.holds Try.pinned (OpenSpec.upto crcOtherSpec)

/-- 'tributarylaw03.CrcBurst', WHERE WHAT IT READS IS OF BULK AT MOST 1048576: true; the input reads as it did. -/
def crcBurstUptoRow : OpenClaim := { program := "ytcgdkfhfchkdlaa", sum := "8f8ee7a915b87436576dc0eab8a7f0e3be79e9752de91ace38ce15dc2abe1bc0", func := "tributary/tributarylaw03.CrcBurst", spec := "crcBurst", apart := false, narrowed := true }
def CrcBurstUptoSaid : Prop := crcBurstUptoRow.holds Try.pinned (OpenSpec.upto crcBurstSpec)

/-- 'tributarylaw03.CrcAffine', WHERE WHAT IT READS IS OF BULK AT MOST 1048576: true; the input reads as it did. -/
def crcAffineUptoRow : OpenClaim := { program := "ytcgdkfhfchkdlaa", sum := "8f8ee7a915b87436576dc0eab8a7f0e3be79e9752de91ace38ce15dc2abe1bc0", func := "tributary/tributarylaw03.CrcAffine", spec := "crcAffine", apart := false, narrowed := true }
def CrcAffineUptoSaid : Prop := crcAffineUptoRow.holds Try.pinned (OpenSpec.upto crcAffineSpec)

/-- 'tributarylaw19.ReserveTo', WHERE WHAT IT READS IS OF BULK AT MOST 1048576: true; the input reads as it did. -/
def reserveToUptoRow : OpenClaim := { program := "ytcgdkfhfchkdlaa", sum := "8f8ee7a915b87436576dc0eab8a7f0e3be79e9752de91ace38ce15dc2abe1bc0", func := "tributary/tributarylaw19.ReserveTo", spec := "reserveTo", apart := false, narrowed := true }
def ReserveToUptoSaid : Prop := reserveToUptoRow.holds Try.pinned (OpenSpec.upto reserveToSpec)

/-- 'tributarylaw03.CrcHash', WHERE WHAT IT READS IS OF BULK AT MOST 1048576: true; the input reads as it did. -/
def crcHashUptoRow : OpenClaim := { program := "ytcgdkfhfchkdlaa", sum := "8f8ee7a915b87436576dc0eab8a7f0e3be79e9752de91ace38ce15dc2abe1bc0", func := "tributary/tributarylaw03.CrcHash", spec := "crcHash", apart := false, narrowed := true }
def CrcHashUptoSaid : Prop := crcHashUptoRow.holds Try.pinned (OpenSpec.upto crcHashSpec)

/-- 'tributarylaw04.FrameIs', WHERE WHAT IT READS IS OF BULK AT MOST 1048576: true; the input reads as it did. -/
def frameIsUptoRow : OpenClaim := { program := "ytcgdkfhfchkdlaa", sum := "8f8ee7a915b87436576dc0eab8a7f0e3be79e9752de91ace38ce15dc2abe1bc0", func := "tributary/tributarylaw04.FrameIs", spec := "frameIs", apart := false, narrowed := true }
def FrameIsUptoSaid : Prop := frameIsUptoRow.holds Try.pinned (OpenSpec.upto frameIsSpec)

/-- 'tributarylaw19.ReserveGives', WHERE WHAT IT READS IS OF BULK AT MOST 1048576: true; the input reads as it did. -/
def reserveGivesUptoRow : OpenClaim := { program := "ytcgdkfhfchkdlaa", sum := "8f8ee7a915b87436576dc0eab8a7f0e3be79e9752de91ace38ce15dc2abe1bc0", func := "tributary/tributarylaw19.ReserveGives", spec := "reserveGives", apart := false, narrowed := true }
def ReserveGivesUptoSaid : Prop := reserveGivesUptoRow.holds Try.pinned (OpenSpec.upto reserveGivesSpec)

/-- 'tributarylaw19.ReserveEnough', WHERE WHAT IT READS IS OF BULK AT MOST 1048576: true; the input reads as it did. -/
def reserveEnoughUptoRow : OpenClaim := { program := "ytcgdkfhfchkdlaa", sum := "8f8ee7a915b87436576dc0eab8a7f0e3be79e9752de91ace38ce15dc2abe1bc0", func := "tributary/tributarylaw19.ReserveEnough", spec := "reserveEnough", apart := false, narrowed := true }
def ReserveEnoughUptoSaid : Prop := reserveEnoughUptoRow.holds Try.pinned (OpenSpec.upto reserveEnoughSpec)

/-- 'tributarylaw19.ReserveOnce', WHERE WHAT IT READS IS OF BULK AT MOST 1048576: true; the input reads as it did. -/
def reserveOnceUptoRow : OpenClaim := { program := "ytcgdkfhfchkdlaa", sum := "8f8ee7a915b87436576dc0eab8a7f0e3be79e9752de91ace38ce15dc2abe1bc0", func := "tributary/tributarylaw19.ReserveOnce", spec := "reserveOnce", apart := false, narrowed := true }
def ReserveOnceUptoSaid : Prop := reserveOnceUptoRow.holds Try.pinned (OpenSpec.upto reserveOnceSpec)

/-- 'tributarylaw04.FrameScans', WHERE WHAT IT READS IS OF BULK AT MOST 1048576: true; the input reads as it did. -/
def frameScansUptoRow : OpenClaim := { program := "ytcgdkfhfchkdlaa", sum := "8f8ee7a915b87436576dc0eab8a7f0e3be79e9752de91ace38ce15dc2abe1bc0", func := "tributary/tributarylaw04.FrameScans", spec := "frameScans", apart := false, narrowed := true }
def FrameScansUptoSaid : Prop := frameScansUptoRow.holds Try.pinned (OpenSpec.upto frameScansSpec)

/-- 'tributarylaw04.FrameBack', WHERE WHAT IT READS IS OF BULK AT MOST 1048576: true; the input reads as it did. -/
def frameBackUptoRow : OpenClaim := { program := "ytcgdkfhfchkdlaa", sum := "8f8ee7a915b87436576dc0eab8a7f0e3be79e9752de91ace38ce15dc2abe1bc0", func := "tributary/tributarylaw04.FrameBack", spec := "frameBack", apart := false, narrowed := true }
def FrameBackUptoSaid : Prop := frameBackUptoRow.holds Try.pinned (OpenSpec.upto frameBackSpec)

/-- 'tributarylaw04.FrameOne', WHERE WHAT IT READS IS OF BULK AT MOST 1048576: true; the input reads as it did. -/
def frameOneUptoRow : OpenClaim := { program := "ytcgdkfhfchkdlaa", sum := "8f8ee7a915b87436576dc0eab8a7f0e3be79e9752de91ace38ce15dc2abe1bc0", func := "tributary/tributarylaw04.FrameOne", spec := "frameOne", apart := false, narrowed := true }
def FrameOneUptoSaid : Prop := frameOneUptoRow.holds Try.pinned (OpenSpec.upto frameOneSpec)

/-- 'tributarylaw04.FrameTurned', WHERE WHAT IT READS IS OF BULK AT MOST 1048576: true; the input reads as it did. -/
def frameTurnedUptoRow : OpenClaim := { program := "ytcgdkfhfchkdlaa", sum := "8f8ee7a915b87436576dc0eab8a7f0e3be79e9752de91ace38ce15dc2abe1bc0", func := "tributary/tributarylaw04.FrameTurned", spec := "frameTurned", apart := false, narrowed := true }
def FrameTurnedUptoSaid : Prop := frameTurnedUptoRow.holds Try.pinned (OpenSpec.upto frameTurnedSpec)

/-- 'tributarylaw04.FrameCut', WHERE WHAT IT READS IS OF BULK AT MOST 1048576: true; the input reads as it did. -/
def frameCutUptoRow : OpenClaim := { program := "ytcgdkfhfchkdlaa", sum := "8f8ee7a915b87436576dc0eab8a7f0e3be79e9752de91ace38ce15dc2abe1bc0", func := "tributary/tributarylaw04.FrameCut", spec := "frameCut", apart := false, narrowed := true }
def FrameCutUptoSaid : Prop := frameCutUptoRow.holds Try.pinned (OpenSpec.upto frameCutSpec)

/-- 'tributarylaw04.FrameNests', WHERE WHAT IT READS IS OF BULK AT MOST 1048576: true; the input reads as it did. -/
def frameNestsUptoRow : OpenClaim := { program := "ytcgdkfhfchkdlaa", sum := "8f8ee7a915b87436576dc0eab8a7f0e3be79e9752de91ace38ce15dc2abe1bc0", func := "tributary/tributarylaw04.FrameNests", spec := "frameNests", apart := false, narrowed := true }
def FrameNestsUptoSaid : Prop := frameNestsUptoRow.holds Try.pinned (OpenSpec.upto frameNestsSpec)

/-- 'tributarylaw17.TapeFuses', WHERE WHAT IT READS IS OF BULK AT MOST 1048576: true; the input reads as it did. -/
def tapeFusesUptoRow : OpenClaim := { program := "ytcgdkfhfchkdlaa", sum := "8f8ee7a915b87436576dc0eab8a7f0e3be79e9752de91ace38ce15dc2abe1bc0", func := "tributary/tributarylaw17.TapeFuses", spec := "tapeFuses", apart := false, narrowed := true }
def TapeFusesUptoSaid : Prop := tapeFusesUptoRow.holds Try.pinned (OpenSpec.upto tapeFusesSpec)

/-- 'tributarylaw17.TapePlays', WHERE WHAT IT READS IS OF BULK AT MOST 1048576: true; the input reads as it did. -/
def tapePlaysUptoRow : OpenClaim := { program := "ytcgdkfhfchkdlaa", sum := "8f8ee7a915b87436576dc0eab8a7f0e3be79e9752de91ace38ce15dc2abe1bc0", func := "tributary/tributarylaw17.TapePlays", spec := "tapePlays", apart := false, narrowed := true }
def TapePlaysUptoSaid : Prop := tapePlaysUptoRow.holds Try.pinned (OpenSpec.upto tapePlaysSpec)

/-- 'tributarylaw17.TapeKeeps', WHERE WHAT IT READS IS OF BULK AT MOST 1048576: true; the input reads as it did. -/
def tapeKeepsUptoRow : OpenClaim := { program := "ytcgdkfhfchkdlaa", sum := "8f8ee7a915b87436576dc0eab8a7f0e3be79e9752de91ace38ce15dc2abe1bc0", func := "tributary/tributarylaw17.TapeKeeps", spec := "tapeKeeps", apart := false, narrowed := true }
def TapeKeepsUptoSaid : Prop := tapeKeepsUptoRow.holds Try.pinned (OpenSpec.upto tapeKeepsSpec)

/-- 'tributarylaw17.TapeOwn', WHERE WHAT IT READS IS OF BULK AT MOST 1048576: true; the input reads as it did. -/
def tapeOwnUptoRow : OpenClaim := { program := "ytcgdkfhfchkdlaa", sum := "8f8ee7a915b87436576dc0eab8a7f0e3be79e9752de91ace38ce15dc2abe1bc0", func := "tributary/tributarylaw17.TapeOwn", spec := "tapeOwn", apart := false, narrowed := true }
def TapeOwnUptoSaid : Prop := tapeOwnUptoRow.holds Try.pinned (OpenSpec.upto tapeOwnSpec)

/-- 'tributarylaw17.TapeNil', WHERE WHAT IT READS IS OF BULK AT MOST 1048576: true; the input reads as it did. -/
def tapeNilUptoRow : OpenClaim := { program := "ytcgdkfhfchkdlaa", sum := "8f8ee7a915b87436576dc0eab8a7f0e3be79e9752de91ace38ce15dc2abe1bc0", func := "tributary/tributarylaw17.TapeNil", spec := "tapeNil", apart := false, narrowed := true }
def TapeNilUptoSaid : Prop := tapeNilUptoRow.holds Try.pinned (OpenSpec.upto tapeNilSpec)

/-- 'tributarylaw18.JournalRaw', WHERE WHAT IT READS IS OF BULK AT MOST 1048576: true; the input reads as it did. -/
def journalRawUptoRow : OpenClaim := { program := "ytcgdkfhfchkdlaa", sum := "8f8ee7a915b87436576dc0eab8a7f0e3be79e9752de91ace38ce15dc2abe1bc0", func := "tributary/tributarylaw18.JournalRaw", spec := "journalRaw", apart := false, narrowed := true }
def JournalRawUptoSaid : Prop := journalRawUptoRow.holds Try.pinned (OpenSpec.upto journalRawSpec)

/-- 'tributarylaw18.JournalCrashes', WHERE WHAT IT READS IS OF BULK AT MOST 1048576: true; the input reads as it did. -/
def journalCrashesUptoRow : OpenClaim := { program := "ytcgdkfhfchkdlaa", sum := "8f8ee7a915b87436576dc0eab8a7f0e3be79e9752de91ace38ce15dc2abe1bc0", func := "tributary/tributarylaw18.JournalCrashes", spec := "journalCrashes", apart := false, narrowed := true }
def JournalCrashesUptoSaid : Prop := journalCrashesUptoRow.holds Try.pinned (OpenSpec.upto journalCrashesSpec)

/-- 'tributarylaw18.JournalRenews', WHERE WHAT IT READS IS OF BULK AT MOST 1048576: true; the input reads as it did. -/
def journalRenewsUptoRow : OpenClaim := { program := "ytcgdkfhfchkdlaa", sum := "8f8ee7a915b87436576dc0eab8a7f0e3be79e9752de91ace38ce15dc2abe1bc0", func := "tributary/tributarylaw18.JournalRenews", spec := "journalRenews", apart := false, narrowed := true }
def JournalRenewsUptoSaid : Prop := journalRenewsUptoRow.holds Try.pinned (OpenSpec.upto journalRenewsSpec)

/-- 'tributarylaw18.JournalPlays', WHERE WHAT IT READS IS OF BULK AT MOST 1048576: true; the input reads as it did. -/
def journalPlaysUptoRow : OpenClaim := { program := "ytcgdkfhfchkdlaa", sum := "8f8ee7a915b87436576dc0eab8a7f0e3be79e9752de91ace38ce15dc2abe1bc0", func := "tributary/tributarylaw18.JournalPlays", spec := "journalPlays", apart := false, narrowed := true }
def JournalPlaysUptoSaid : Prop := journalPlaysUptoRow.holds Try.pinned (OpenSpec.upto journalPlaysSpec)

end Rows
end Go.Proofs.Ytcgdkfhfchkdlaa
