/-
  No cell of these rows narrows 'for every input' (looked for: loops, veiled, ifaces, maps, wideKeys, modest, calm, conditions, laid).
  DERIVED. THE GIVEN ROWS OF THIS SEAT. 20 by the template 'for every input the law returns true; each argument reads behind the call as it read before'; 0 by the template 'total and deterministic' (their statements: YtgigbkgdbhikmaaTotals.lean).
  GIVEN WITH THE SEED: the statements are not yours to turn. If you find one false, say at which input.
  Laid BY PROGRAM, IN A SANDBOX (cutbox-rows.mjs): the forced cells as the released guide's own fill.sh prints them over the translation b17efc511d7694f0… (all of the seat's roots in one cut). By AI agents, Wed Nov 11 2026. No macro, syntax, notation, axiom, sorry.
-/
import Derived.Test.YtgigbkgdbhikmaaChecked
import GoSem.Claim
import GoSem.ClaimJoined
import GoSem.ClaimMapViews
import Derived.JoinedTies
import Derived.KernelRfl
namespace Go.Proofs.Ytgigbkgdbhikmaa
/- THE CELL 'sum', in the pinned program and in every row, IS THE sha256 OF THE DUMP (.gsa) THAT YtgigbkgdbhikmaaProg.lean LOADS. Nothing in Lean hashes anything: it is a label: what it is worth is what the hold of that sum in a sandbox is worth. -/
noncomputable def Try.pinned : Pinned := { name := "ytgigbkgdbhikmaa", sum := "b17efc511d7694f0fe4c3c76daec36963f12d71da12d9e4215354bbeea5c94b8", checked := Try.checked }
namespace Rows
def none {H : Type} : Left H := { results := [], args := [] }

/-- 'cutwaterlaw21.WireWrites': WHATEVER THE INPUT: true; the input reads as it did. -/
def wireWritesSpec : ChangeSpec := { name := "wireWrites", fn := fun _ => fun
  | [d] => { results := [.lit (.bool true)], args := [d] }
  | _ => none }
def wireWritesRow : OpenClaim := { program := "ytgigbkgdbhikmaa", sum := "b17efc511d7694f0fe4c3c76daec36963f12d71da12d9e4215354bbeea5c94b8", func := "cutwater/cutwaterlaw21.WireWrites", spec := "wireWrites", apart := false }
def WireWritesSaid : Prop := wireWritesRow.holds Try.pinned (OpenSpec.ofChange wireWritesSpec)

/-- ITS FALSE NEIGHBOUR: 'it returns false'. Refute it at one input. -/
def wireWritesWrong : ChangeSpec := { name := "wireWrites", fn := fun _ => fun
  | [d] => { results := [.lit (.bool false)], args := [d] }
  | _ => none }
def WireWritesWrongFalsely : Prop := wireWritesRow.holds Try.pinned (OpenSpec.ofChange wireWritesWrong)

/-- 'cutwaterlaw21.WireApart': WHATEVER THE INPUT: true; the input reads as it did. -/
def wireApartSpec : ChangeSpec := { name := "wireApart", fn := fun _ => fun
  | [d1, d2] => { results := [.lit (.bool true)], args := [d1, d2] }
  | _ => none }
def wireApartRow : OpenClaim := { program := "ytgigbkgdbhikmaa", sum := "b17efc511d7694f0fe4c3c76daec36963f12d71da12d9e4215354bbeea5c94b8", func := "cutwater/cutwaterlaw21.WireApart", spec := "wireApart", apart := false }
def WireApartSaid : Prop := wireApartRow.holds Try.pinned (OpenSpec.ofChange wireApartSpec)

/-- ITS FALSE NEIGHBOUR: 'it returns false'. Refute it at one input. -/
def wireApartWrong : ChangeSpec := { name := "wireApart", fn := fun _ => fun
  | [d1, d2] => { results := [.lit (.bool false)], args := [d1, d2] }
  | _ => none }
def WireApartWrongFalsely : Prop := wireApartRow.holds Try.pinned (OpenSpec.ofChange wireApartWrong)

/-- 'cutwaterlaw08.TableApart': WHATEVER THE INPUT: true; the input reads as it did. -/
def tableApartSpec : ChangeSpec := { name := "tableApart", fn := fun _ => fun
  | [d1, d2, d3] => { results := [.lit (.bool true)], args := [d1, d2, d3] }
  | _ => none }
def tableApartRow : OpenClaim := { program := "ytgigbkgdbhikmaa", sum := "b17efc511d7694f0fe4c3c76daec36963f12d71da12d9e4215354bbeea5c94b8", func := "cutwater/cutwaterlaw08.TableApart", spec := "tableApart", apart := false }
def TableApartSaid : Prop := tableApartRow.holds Try.pinned (OpenSpec.ofChange tableApartSpec)

/-- ITS FALSE NEIGHBOUR: 'it returns false'. Refute it at one input. -/
def tableApartWrong : ChangeSpec := { name := "tableApart", fn := fun _ => fun
  | [d1, d2, d3] => { results := [.lit (.bool false)], args := [d1, d2, d3] }
  | _ => none }
def TableApartWrongFalsely : Prop := tableApartRow.holds Try.pinned (OpenSpec.ofChange tableApartWrong)

/-- 'cutwaterlaw03.GeomRises': WHATEVER THE INPUT: true; the input reads as it did. -/
def geomRisesSpec : ChangeSpec := { name := "geomRises", fn := fun _ => fun
  | [d] => { results := [.lit (.bool true)], args := [d] }
  | _ => none }
def geomRisesRow : OpenClaim := { program := "ytgigbkgdbhikmaa", sum := "b17efc511d7694f0fe4c3c76daec36963f12d71da12d9e4215354bbeea5c94b8", func := "cutwater/cutwaterlaw03.GeomRises", spec := "geomRises", apart := false }
def GeomRisesSaid : Prop := geomRisesRow.holds Try.pinned (OpenSpec.ofChange geomRisesSpec)

/-- ITS FALSE NEIGHBOUR: 'it returns false'. Refute it at one input. -/
def geomRisesWrong : ChangeSpec := { name := "geomRises", fn := fun _ => fun
  | [d] => { results := [.lit (.bool false)], args := [d] }
  | _ => none }
def GeomRisesWrongFalsely : Prop := geomRisesRow.holds Try.pinned (OpenSpec.ofChange geomRisesWrong)

/-- 'cutwaterlaw03.GeomFits': WHATEVER THE INPUT: true; the input reads as it did. -/
def geomFitsSpec : ChangeSpec := { name := "geomFits", fn := fun _ => fun
  | [d] => { results := [.lit (.bool true)], args := [d] }
  | _ => none }
def geomFitsRow : OpenClaim := { program := "ytgigbkgdbhikmaa", sum := "b17efc511d7694f0fe4c3c76daec36963f12d71da12d9e4215354bbeea5c94b8", func := "cutwater/cutwaterlaw03.GeomFits", spec := "geomFits", apart := false }
def GeomFitsSaid : Prop := geomFitsRow.holds Try.pinned (OpenSpec.ofChange geomFitsSpec)

/-- ITS FALSE NEIGHBOUR: 'it returns false'. Refute it at one input. -/
def geomFitsWrong : ChangeSpec := { name := "geomFits", fn := fun _ => fun
  | [d] => { results := [.lit (.bool false)], args := [d] }
  | _ => none }
def GeomFitsWrongFalsely : Prop := geomFitsRow.holds Try.pinned (OpenSpec.ofChange geomFitsWrong)

/-- 'cutwaterlaw03.GeomRegions': WHATEVER THE INPUT: true; the input reads as it did. -/
def geomRegionsSpec : ChangeSpec := { name := "geomRegions", fn := fun _ => fun
  | [d1, d2, d3] => { results := [.lit (.bool true)], args := [d1, d2, d3] }
  | _ => none }
def geomRegionsRow : OpenClaim := { program := "ytgigbkgdbhikmaa", sum := "b17efc511d7694f0fe4c3c76daec36963f12d71da12d9e4215354bbeea5c94b8", func := "cutwater/cutwaterlaw03.GeomRegions", spec := "geomRegions", apart := false }
def GeomRegionsSaid : Prop := geomRegionsRow.holds Try.pinned (OpenSpec.ofChange geomRegionsSpec)

/-- ITS FALSE NEIGHBOUR: 'it returns false'. Refute it at one input. -/
def geomRegionsWrong : ChangeSpec := { name := "geomRegions", fn := fun _ => fun
  | [d1, d2, d3] => { results := [.lit (.bool false)], args := [d1, d2, d3] }
  | _ => none }
def GeomRegionsWrongFalsely : Prop := geomRegionsRow.holds Try.pinned (OpenSpec.ofChange geomRegionsWrong)

/-- 'cutwaterlaw21.WireReads': WHATEVER THE INPUT: true; the input reads as it did. -/
def wireReadsSpec : ChangeSpec := { name := "wireReads", fn := fun _ => fun
  | [d] => { results := [.lit (.bool true)], args := [d] }
  | _ => none }
def wireReadsRow : OpenClaim := { program := "ytgigbkgdbhikmaa", sum := "b17efc511d7694f0fe4c3c76daec36963f12d71da12d9e4215354bbeea5c94b8", func := "cutwater/cutwaterlaw21.WireReads", spec := "wireReads", inPlace := ["internal/abi.NoEscape", "internal/bytealg.MakeNoZero"], apart := false }
def WireReadsSaid : Prop := wireReadsRow.holds Try.pinned (OpenSpec.ofChange wireReadsSpec)

/-- ITS FALSE NEIGHBOUR: 'it returns false'. Refute it at one input. -/
def wireReadsWrong : ChangeSpec := { name := "wireReads", fn := fun _ => fun
  | [d] => { results := [.lit (.bool false)], args := [d] }
  | _ => none }
def WireReadsWrongFalsely : Prop := wireReadsRow.holds Try.pinned (OpenSpec.ofChange wireReadsWrong)

/-- 'cutwaterlaw21.WireBack': WHATEVER THE INPUT: true; the input reads as it did. -/
def wireBackSpec : ChangeSpec := { name := "wireBack", fn := fun _ => fun
  | [d1, d2] => { results := [.lit (.bool true)], args := [d1, d2] }
  | _ => none }
def wireBackRow : OpenClaim := { program := "ytgigbkgdbhikmaa", sum := "b17efc511d7694f0fe4c3c76daec36963f12d71da12d9e4215354bbeea5c94b8", func := "cutwater/cutwaterlaw21.WireBack", spec := "wireBack", inPlace := ["internal/abi.NoEscape", "internal/bytealg.MakeNoZero"], apart := false }
def WireBackSaid : Prop := wireBackRow.holds Try.pinned (OpenSpec.ofChange wireBackSpec)

/-- ITS FALSE NEIGHBOUR: 'it returns false'. Refute it at one input. -/
def wireBackWrong : ChangeSpec := { name := "wireBack", fn := fun _ => fun
  | [d1, d2] => { results := [.lit (.bool false)], args := [d1, d2] }
  | _ => none }
def WireBackWrongFalsely : Prop := wireBackRow.holds Try.pinned (OpenSpec.ofChange wireBackWrong)

/-- 'cutwaterlaw21.WireTurned': WHATEVER THE INPUT: true; the input reads as it did. -/
def wireTurnedSpec : ChangeSpec := { name := "wireTurned", fn := fun _ => fun
  | [d1, d2, d3] => { results := [.lit (.bool true)], args := [d1, d2, d3] }
  | _ => none }
def wireTurnedRow : OpenClaim := { program := "ytgigbkgdbhikmaa", sum := "b17efc511d7694f0fe4c3c76daec36963f12d71da12d9e4215354bbeea5c94b8", func := "cutwater/cutwaterlaw21.WireTurned", spec := "wireTurned", inPlace := ["internal/abi.NoEscape", "internal/bytealg.MakeNoZero"], apart := false }
def WireTurnedSaid : Prop := wireTurnedRow.holds Try.pinned (OpenSpec.ofChange wireTurnedSpec)

/-- ITS FALSE NEIGHBOUR: 'it returns false'. Refute it at one input. -/
def wireTurnedWrong : ChangeSpec := { name := "wireTurned", fn := fun _ => fun
  | [d1, d2, d3] => { results := [.lit (.bool false)], args := [d1, d2, d3] }
  | _ => none }
def WireTurnedWrongFalsely : Prop := wireTurnedRow.holds Try.pinned (OpenSpec.ofChange wireTurnedWrong)

/-- 'cutwaterlaw08.TableWrites': WHATEVER THE INPUT: true; the input reads as it did. -/
def tableWritesSpec : ChangeSpec := { name := "tableWrites", fn := fun _ => fun
  | [d1, d2, d3] => { results := [.lit (.bool true)], args := [d1, d2, d3] }
  | _ => none }
def tableWritesRow : OpenClaim := { program := "ytgigbkgdbhikmaa", sum := "b17efc511d7694f0fe4c3c76daec36963f12d71da12d9e4215354bbeea5c94b8", func := "cutwater/cutwaterlaw08.TableWrites", spec := "tableWrites", inPlace := ["internal/abi.NoEscape", "internal/bytealg.MakeNoZero"], apart := false }
def TableWritesSaid : Prop := tableWritesRow.holds Try.pinned (OpenSpec.ofChange tableWritesSpec)

/-- ITS FALSE NEIGHBOUR: 'it returns false'. Refute it at one input. -/
def tableWritesWrong : ChangeSpec := { name := "tableWrites", fn := fun _ => fun
  | [d1, d2, d3] => { results := [.lit (.bool false)], args := [d1, d2, d3] }
  | _ => none }
def TableWritesWrongFalsely : Prop := tableWritesRow.holds Try.pinned (OpenSpec.ofChange tableWritesWrong)

/-- 'cutwaterlaw06.InodeWrites': WHATEVER THE INPUT: true; the input reads as it did. -/
def inodeWritesSpec : ChangeSpec := { name := "inodeWrites", fn := fun _ => fun
  | [d1, d2] => { results := [.lit (.bool true)], args := [d1, d2] }
  | _ => none }
def inodeWritesRow : OpenClaim := { program := "ytgigbkgdbhikmaa", sum := "b17efc511d7694f0fe4c3c76daec36963f12d71da12d9e4215354bbeea5c94b8", func := "cutwater/cutwaterlaw06.InodeWrites", spec := "inodeWrites", inPlace := ["internal/abi.NoEscape", "internal/bytealg.MakeNoZero"], apart := false }
def InodeWritesSaid : Prop := inodeWritesRow.holds Try.pinned (OpenSpec.ofChange inodeWritesSpec)

/-- ITS FALSE NEIGHBOUR: 'it returns false'. Refute it at one input. -/
def inodeWritesWrong : ChangeSpec := { name := "inodeWrites", fn := fun _ => fun
  | [d1, d2] => { results := [.lit (.bool false)], args := [d1, d2] }
  | _ => none }
def InodeWritesWrongFalsely : Prop := inodeWritesRow.holds Try.pinned (OpenSpec.ofChange inodeWritesWrong)

/-- 'cutwaterlaw08.TableReads': WHATEVER THE INPUT: true; the input reads as it did. -/
def tableReadsSpec : ChangeSpec := { name := "tableReads", fn := fun _ => fun
  | [d1, d2] => { results := [.lit (.bool true)], args := [d1, d2] }
  | _ => none }
def tableReadsRow : OpenClaim := { program := "ytgigbkgdbhikmaa", sum := "b17efc511d7694f0fe4c3c76daec36963f12d71da12d9e4215354bbeea5c94b8", func := "cutwater/cutwaterlaw08.TableReads", spec := "tableReads", inPlace := ["internal/abi.NoEscape", "internal/bytealg.MakeNoZero"], apart := false }
def TableReadsSaid : Prop := tableReadsRow.holds Try.pinned (OpenSpec.ofChange tableReadsSpec)

/-- ITS FALSE NEIGHBOUR: 'it returns false'. Refute it at one input. -/
def tableReadsWrong : ChangeSpec := { name := "tableReads", fn := fun _ => fun
  | [d1, d2] => { results := [.lit (.bool false)], args := [d1, d2] }
  | _ => none }
def TableReadsWrongFalsely : Prop := tableReadsRow.holds Try.pinned (OpenSpec.ofChange tableReadsWrong)

/-- 'cutwaterlaw08.TableBack': WHATEVER THE INPUT: true; the input reads as it did. -/
def tableBackSpec : ChangeSpec := { name := "tableBack", fn := fun _ => fun
  | [d1, d2, d3] => { results := [.lit (.bool true)], args := [d1, d2, d3] }
  | _ => none }
def tableBackRow : OpenClaim := { program := "ytgigbkgdbhikmaa", sum := "b17efc511d7694f0fe4c3c76daec36963f12d71da12d9e4215354bbeea5c94b8", func := "cutwater/cutwaterlaw08.TableBack", spec := "tableBack", inPlace := ["internal/abi.NoEscape", "internal/bytealg.MakeNoZero"], apart := false }
def TableBackSaid : Prop := tableBackRow.holds Try.pinned (OpenSpec.ofChange tableBackSpec)

/-- ITS FALSE NEIGHBOUR: 'it returns false'. Refute it at one input. -/
def tableBackWrong : ChangeSpec := { name := "tableBack", fn := fun _ => fun
  | [d1, d2, d3] => { results := [.lit (.bool false)], args := [d1, d2, d3] }
  | _ => none }
def TableBackWrongFalsely : Prop := tableBackRow.holds Try.pinned (OpenSpec.ofChange tableBackWrong)

/-- 'cutwaterlaw06.InodeParts': WHATEVER THE INPUT: true; the input reads as it did. -/
def inodePartsSpec : ChangeSpec := { name := "inodeParts", fn := fun _ => fun
  | [d1, d2] => { results := [.lit (.bool true)], args := [d1, d2] }
  | _ => none }
def inodePartsRow : OpenClaim := { program := "ytgigbkgdbhikmaa", sum := "b17efc511d7694f0fe4c3c76daec36963f12d71da12d9e4215354bbeea5c94b8", func := "cutwater/cutwaterlaw06.InodeParts", spec := "inodeParts", inPlace := ["internal/abi.NoEscape", "internal/bytealg.MakeNoZero"], apart := false }
def InodePartsSaid : Prop := inodePartsRow.holds Try.pinned (OpenSpec.ofChange inodePartsSpec)

/-- ITS FALSE NEIGHBOUR: 'it returns false'. Refute it at one input. -/
def inodePartsWrong : ChangeSpec := { name := "inodeParts", fn := fun _ => fun
  | [d1, d2] => { results := [.lit (.bool false)], args := [d1, d2] }
  | _ => none }
def InodePartsWrongFalsely : Prop := inodePartsRow.holds Try.pinned (OpenSpec.ofChange inodePartsWrong)

/-- 'cutwaterlaw08.TableHands': WHATEVER THE INPUT: true; the input reads as it did. -/
def tableHandsSpec : ChangeSpec := { name := "tableHands", fn := fun _ => fun
  | [d1, d2] => { results := [.lit (.bool true)], args := [d1, d2] }
  | _ => none }
def tableHandsRow : OpenClaim := { program := "ytgigbkgdbhikmaa", sum := "b17efc511d7694f0fe4c3c76daec36963f12d71da12d9e4215354bbeea5c94b8", func := "cutwater/cutwaterlaw08.TableHands", spec := "tableHands", inPlace := ["internal/abi.NoEscape", "internal/bytealg.MakeNoZero"], apart := false }
def TableHandsSaid : Prop := tableHandsRow.holds Try.pinned (OpenSpec.ofChange tableHandsSpec)

/-- ITS FALSE NEIGHBOUR: 'it returns false'. Refute it at one input. -/
def tableHandsWrong : ChangeSpec := { name := "tableHands", fn := fun _ => fun
  | [d1, d2] => { results := [.lit (.bool false)], args := [d1, d2] }
  | _ => none }
def TableHandsWrongFalsely : Prop := tableHandsRow.holds Try.pinned (OpenSpec.ofChange tableHandsWrong)

/-- 'cutwaterlaw06.InodeBack': WHATEVER THE INPUT: true; the input reads as it did. -/
def inodeBackSpec : ChangeSpec := { name := "inodeBack", fn := fun _ => fun
  | [d1, d2, d3] => { results := [.lit (.bool true)], args := [d1, d2, d3] }
  | _ => none }
def inodeBackRow : OpenClaim := { program := "ytgigbkgdbhikmaa", sum := "b17efc511d7694f0fe4c3c76daec36963f12d71da12d9e4215354bbeea5c94b8", func := "cutwater/cutwaterlaw06.InodeBack", spec := "inodeBack", inPlace := ["internal/abi.NoEscape", "internal/bytealg.MakeNoZero"], unfollowed := true, recurses := true, apart := false }
def InodeBackSaid : Prop := inodeBackRow.holds Try.pinned (OpenSpec.ofChange inodeBackSpec)

/-- ITS FALSE NEIGHBOUR: 'it returns false'. Refute it at one input. -/
def inodeBackWrong : ChangeSpec := { name := "inodeBack", fn := fun _ => fun
  | [d1, d2, d3] => { results := [.lit (.bool false)], args := [d1, d2, d3] }
  | _ => none }
def InodeBackWrongFalsely : Prop := inodeBackRow.holds Try.pinned (OpenSpec.ofChange inodeBackWrong)

/-- 'cutwaterlaw06.InodeFree': WHATEVER THE INPUT: true; the input reads as it did. -/
def inodeFreeSpec : ChangeSpec := { name := "inodeFree", fn := fun _ => fun
  | [d1, d2] => { results := [.lit (.bool true)], args := [d1, d2] }
  | _ => none }
def inodeFreeRow : OpenClaim := { program := "ytgigbkgdbhikmaa", sum := "b17efc511d7694f0fe4c3c76daec36963f12d71da12d9e4215354bbeea5c94b8", func := "cutwater/cutwaterlaw06.InodeFree", spec := "inodeFree", inPlace := ["internal/abi.NoEscape", "internal/bytealg.MakeNoZero"], unfollowed := true, recurses := true, apart := false }
def InodeFreeSaid : Prop := inodeFreeRow.holds Try.pinned (OpenSpec.ofChange inodeFreeSpec)

/-- ITS FALSE NEIGHBOUR: 'it returns false'. Refute it at one input. -/
def inodeFreeWrong : ChangeSpec := { name := "inodeFree", fn := fun _ => fun
  | [d1, d2] => { results := [.lit (.bool false)], args := [d1, d2] }
  | _ => none }
def InodeFreeWrongFalsely : Prop := inodeFreeRow.holds Try.pinned (OpenSpec.ofChange inodeFreeWrong)

/-- 'cutwaterlaw06.InodeLists': WHATEVER THE INPUT: true; the input reads as it did. -/
def inodeListsSpec : ChangeSpec := { name := "inodeLists", fn := fun _ => fun
  | [d1, d2] => { results := [.lit (.bool true)], args := [d1, d2] }
  | _ => none }
def inodeListsRow : OpenClaim := { program := "ytgigbkgdbhikmaa", sum := "b17efc511d7694f0fe4c3c76daec36963f12d71da12d9e4215354bbeea5c94b8", func := "cutwater/cutwaterlaw06.InodeLists", spec := "inodeLists", inPlace := ["internal/abi.NoEscape", "internal/bytealg.MakeNoZero"], apart := false }
def InodeListsSaid : Prop := inodeListsRow.holds Try.pinned (OpenSpec.ofChange inodeListsSpec)

/-- ITS FALSE NEIGHBOUR: 'it returns false'. Refute it at one input. -/
def inodeListsWrong : ChangeSpec := { name := "inodeLists", fn := fun _ => fun
  | [d1, d2] => { results := [.lit (.bool false)], args := [d1, d2] }
  | _ => none }
def InodeListsWrongFalsely : Prop := inodeListsRow.holds Try.pinned (OpenSpec.ofChange inodeListsWrong)

/-- 'cutwaterlaw06.InodePatched': WHATEVER THE INPUT: true; the input reads as it did. -/
def inodePatchedSpec : ChangeSpec := { name := "inodePatched", fn := fun _ => fun
  | [d1, d2, d3] => { results := [.lit (.bool true)], args := [d1, d2, d3] }
  | _ => none }
def inodePatchedRow : OpenClaim := { program := "ytgigbkgdbhikmaa", sum := "b17efc511d7694f0fe4c3c76daec36963f12d71da12d9e4215354bbeea5c94b8", func := "cutwater/cutwaterlaw06.InodePatched", spec := "inodePatched", inPlace := ["internal/abi.NoEscape", "internal/bytealg.MakeNoZero"], unfollowed := true, recurses := true, apart := false }
def InodePatchedSaid : Prop := inodePatchedRow.holds Try.pinned (OpenSpec.ofChange inodePatchedSpec)

/-- ITS FALSE NEIGHBOUR: 'it returns false'. Refute it at one input. -/
def inodePatchedWrong : ChangeSpec := { name := "inodePatched", fn := fun _ => fun
  | [d1, d2, d3] => { results := [.lit (.bool false)], args := [d1, d2, d3] }
  | _ => none }
def InodePatchedWrongFalsely : Prop := inodePatchedRow.holds Try.pinned (OpenSpec.ofChange inodePatchedWrong)

/-- 'cutwaterlaw06.InodeReads': WHATEVER THE INPUT: true; the input reads as it did. -/
def inodeReadsSpec : ChangeSpec := { name := "inodeReads", fn := fun _ => fun
  | [d1, d2] => { results := [.lit (.bool true)], args := [d1, d2] }
  | _ => none }
def inodeReadsRow : OpenClaim := { program := "ytgigbkgdbhikmaa", sum := "b17efc511d7694f0fe4c3c76daec36963f12d71da12d9e4215354bbeea5c94b8", func := "cutwater/cutwaterlaw06.InodeReads", spec := "inodeReads", inPlace := ["internal/abi.NoEscape", "internal/bytealg.MakeNoZero"], unfollowed := true, recurses := true, apart := false }
def InodeReadsSaid : Prop := inodeReadsRow.holds Try.pinned (OpenSpec.ofChange inodeReadsSpec)

/-- ITS FALSE NEIGHBOUR: 'it returns false'. Refute it at one input. -/
def inodeReadsWrong : ChangeSpec := { name := "inodeReads", fn := fun _ => fun
  | [d1, d2] => { results := [.lit (.bool false)], args := [d1, d2] }
  | _ => none }
def InodeReadsWrongFalsely : Prop := inodeReadsRow.holds Try.pinned (OpenSpec.ofChange inodeReadsWrong)

/- THE SECOND FORM. 'bulk': how many values and letters a reading holds, each counted each time it is reached (what is shared counts as often as it is met; a slice's spare places count too). A statement '..UptoSaid' is the law's where the arguments, and the package variables that the reading takes, are together of bulk at most 1048576: NARROWER than '..Said'. Prove '..Said' where nothing that the law and all that it calls make is longer than what came in: it says more and counts as full. Else prove '..UptoSaid'. A law counts once. -/
mutual
def uptoBulk {H : Type} : DataW H → Nat
  | .lit (.string bytes) => bytes.length + 1
  | .lit _ => 1
  | .nil => 1
  | .ptr d => uptoBulk d + 1
  | .slice elems spare => uptoBulkAll elems + uptoBulkAll spare + 1
  | .agg parts => uptoBulkAll parts + 1
  | .iface _ d => uptoBulk d + 1
  | .map entries => uptoBulkEntries entries + 1
  | .held _ => 1
def uptoBulkAll {H : Type} : List (DataW H) → Nat
  | [] => 0
  | d :: r => uptoBulk d + uptoBulkAll r
def uptoBulkEntries {H : Type} : List (Lit × DataW H) → Nat
  | [] => 0
  | x :: r => uptoBulkEntry x + uptoBulkEntries r
def uptoBulkEntry {H : Type} : Lit × DataW H → Nat
  | (.string bytes, d) => bytes.length + uptoBulk d + 1
  | (_, d) => uptoBulk d + 1
 end
def uptoSmall : (H : Type) → List (DataW H) → Bool := fun _ ds => decide (uptoBulkAll ds ≤ 1048576)
def OpenSpec.upto (s : _root_.Go.ChangeSpec) : _root_.Go.OpenSpec := { _root_.Go.OpenSpec.ofChange s with cond := some uptoSmall }

/-- 'cutwaterlaw21.WireWrites', WHERE WHAT IT READS IS OF BULK AT MOST 1048576: true; the input reads as it did. -/
def wireWritesUptoRow : OpenClaim := { program := "ytgigbkgdbhikmaa", sum := "b17efc511d7694f0fe4c3c76daec36963f12d71da12d9e4215354bbeea5c94b8", func := "cutwater/cutwaterlaw21.WireWrites", spec := "wireWrites", apart := false, narrowed := true }
def WireWritesUptoSaid : Prop := wireWritesUptoRow.holds Try.pinned (OpenSpec.upto wireWritesSpec)

/-- 'cutwaterlaw21.WireApart', WHERE WHAT IT READS IS OF BULK AT MOST 1048576: true; the input reads as it did. -/
def wireApartUptoRow : OpenClaim := { program := "ytgigbkgdbhikmaa", sum := "b17efc511d7694f0fe4c3c76daec36963f12d71da12d9e4215354bbeea5c94b8", func := "cutwater/cutwaterlaw21.WireApart", spec := "wireApart", apart := false, narrowed := true }
def WireApartUptoSaid : Prop := wireApartUptoRow.holds Try.pinned (OpenSpec.upto wireApartSpec)

/-- 'cutwaterlaw08.TableApart', WHERE WHAT IT READS IS OF BULK AT MOST 1048576: true; the input reads as it did. -/
def tableApartUptoRow : OpenClaim := { program := "ytgigbkgdbhikmaa", sum := "b17efc511d7694f0fe4c3c76daec36963f12d71da12d9e4215354bbeea5c94b8", func := "cutwater/cutwaterlaw08.TableApart", spec := "tableApart", apart := false, narrowed := true }
def TableApartUptoSaid : Prop := tableApartUptoRow.holds Try.pinned (OpenSpec.upto tableApartSpec)

/-- 'cutwaterlaw03.GeomRises', WHERE WHAT IT READS IS OF BULK AT MOST 1048576: true; the input reads as it did. -/
def geomRisesUptoRow : OpenClaim := { program := "ytgigbkgdbhikmaa", sum := "b17efc511d7694f0fe4c3c76daec36963f12d71da12d9e4215354bbeea5c94b8", func := "cutwater/cutwaterlaw03.GeomRises", spec := "geomRises", apart := false, narrowed := true }
def GeomRisesUptoSaid : Prop := geomRisesUptoRow.holds Try.pinned (OpenSpec.upto geomRisesSpec)

/-- 'cutwaterlaw03.GeomFits', WHERE WHAT IT READS IS OF BULK AT MOST 1048576: true; the input reads as it did. -/
def geomFitsUptoRow : OpenClaim := { program := "ytgigbkgdbhikmaa", sum := "b17efc511d7694f0fe4c3c76daec36963f12d71da12d9e4215354bbeea5c94b8", func := "cutwater/cutwaterlaw03.GeomFits", spec := "geomFits", apart := false, narrowed := true }
def GeomFitsUptoSaid : Prop := geomFitsUptoRow.holds Try.pinned (OpenSpec.upto geomFitsSpec)

/-- 'cutwaterlaw03.GeomRegions', WHERE WHAT IT READS IS OF BULK AT MOST 1048576: true; the input reads as it did. -/
def geomRegionsUptoRow : OpenClaim := { program := "ytgigbkgdbhikmaa", sum := "b17efc511d7694f0fe4c3c76daec36963f12d71da12d9e4215354bbeea5c94b8", func := "cutwater/cutwaterlaw03.GeomRegions", spec := "geomRegions", apart := false, narrowed := true }
def GeomRegionsUptoSaid : Prop := geomRegionsUptoRow.holds Try.pinned (OpenSpec.upto geomRegionsSpec)

/-- 'cutwaterlaw21.WireReads', WHERE WHAT IT READS IS OF BULK AT MOST 1048576: true; the input reads as it did. -/
def wireReadsUptoRow : OpenClaim := { program := "ytgigbkgdbhikmaa", sum := "b17efc511d7694f0fe4c3c76daec36963f12d71da12d9e4215354bbeea5c94b8", func := "cutwater/cutwaterlaw21.WireReads", spec := "wireReads", inPlace := ["internal/abi.NoEscape", "internal/bytealg.MakeNoZero"], apart := false, narrowed := true }
def WireReadsUptoSaid : Prop := wireReadsUptoRow.holds Try.pinned (OpenSpec.upto wireReadsSpec)

/-- 'cutwaterlaw21.WireBack', WHERE WHAT IT READS IS OF BULK AT MOST 1048576: true; the input reads as it did. -/
def wireBackUptoRow : OpenClaim := { program := "ytgigbkgdbhikmaa", sum := "b17efc511d7694f0fe4c3c76daec36963f12d71da12d9e4215354bbeea5c94b8", func := "cutwater/cutwaterlaw21.WireBack", spec := "wireBack", inPlace := ["internal/abi.NoEscape", "internal/bytealg.MakeNoZero"], apart := false, narrowed := true }
def WireBackUptoSaid : Prop := wireBackUptoRow.holds Try.pinned (OpenSpec.upto wireBackSpec)

/-- 'cutwaterlaw21.WireTurned', WHERE WHAT IT READS IS OF BULK AT MOST 1048576: true; the input reads as it did. -/
def wireTurnedUptoRow : OpenClaim := { program := "ytgigbkgdbhikmaa", sum := "b17efc511d7694f0fe4c3c76daec36963f12d71da12d9e4215354bbeea5c94b8", func := "cutwater/cutwaterlaw21.WireTurned", spec := "wireTurned", inPlace := ["internal/abi.NoEscape", "internal/bytealg.MakeNoZero"], apart := false, narrowed := true }
def WireTurnedUptoSaid : Prop := wireTurnedUptoRow.holds Try.pinned (OpenSpec.upto wireTurnedSpec)

/-- 'cutwaterlaw08.TableWrites', WHERE WHAT IT READS IS OF BULK AT MOST 1048576: true; the input reads as it did. -/
def tableWritesUptoRow : OpenClaim := { program := "ytgigbkgdbhikmaa", sum := "b17efc511d7694f0fe4c3c76daec36963f12d71da12d9e4215354bbeea5c94b8", func := "cutwater/cutwaterlaw08.TableWrites", spec := "tableWrites", inPlace := ["internal/abi.NoEscape", "internal/bytealg.MakeNoZero"], apart := false, narrowed := true }
def TableWritesUptoSaid : Prop := tableWritesUptoRow.holds Try.pinned (OpenSpec.upto tableWritesSpec)

/-- 'cutwaterlaw06.InodeWrites', WHERE WHAT IT READS IS OF BULK AT MOST 1048576: true; the input reads as it did. -/
def inodeWritesUptoRow : OpenClaim := { program := "ytgigbkgdbhikmaa", sum := "b17efc511d7694f0fe4c3c76daec36963f12d71da12d9e4215354bbeea5c94b8", func := "cutwater/cutwaterlaw06.InodeWrites", spec := "inodeWrites", inPlace := ["internal/abi.NoEscape", "internal/bytealg.MakeNoZero"], apart := false, narrowed := true }
def InodeWritesUptoSaid : Prop := inodeWritesUptoRow.holds Try.pinned (OpenSpec.upto inodeWritesSpec)

/-- 'cutwaterlaw08.TableReads', WHERE WHAT IT READS IS OF BULK AT MOST 1048576: true; the input reads as it did. -/
def tableReadsUptoRow : OpenClaim := { program := "ytgigbkgdbhikmaa", sum := "b17efc511d7694f0fe4c3c76daec36963f12d71da12d9e4215354bbeea5c94b8", func := "cutwater/cutwaterlaw08.TableReads", spec := "tableReads", inPlace := ["internal/abi.NoEscape", "internal/bytealg.MakeNoZero"], apart := false, narrowed := true }
def TableReadsUptoSaid : Prop := tableReadsUptoRow.holds Try.pinned (OpenSpec.upto tableReadsSpec)

/-- 'cutwaterlaw08.TableBack', WHERE WHAT IT READS IS OF BULK AT MOST 1048576: true; the input reads as it did. -/
def tableBackUptoRow : OpenClaim := { program := "ytgigbkgdbhikmaa", sum := "b17efc511d7694f0fe4c3c76daec36963f12d71da12d9e4215354bbeea5c94b8", func := "cutwater/cutwaterlaw08.TableBack", spec := "tableBack", inPlace := ["internal/abi.NoEscape", "internal/bytealg.MakeNoZero"], apart := false, narrowed := true }
def TableBackUptoSaid : Prop := tableBackUptoRow.holds Try.pinned (OpenSpec.upto tableBackSpec)

/-- 'cutwaterlaw06.InodeParts', WHERE WHAT IT READS IS OF BULK AT MOST 1048576: true; the input reads as it did. -/
def inodePartsUptoRow : OpenClaim := { program := "ytgigbkgdbhikmaa", sum := "b17efc511d7694f0fe4c3c76daec36963f12d71da12d9e4215354bbeea5c94b8", func := "cutwater/cutwaterlaw06.InodeParts", spec := "inodeParts", inPlace := ["internal/abi.NoEscape", "internal/bytealg.MakeNoZero"], apart := false, narrowed := true }
def InodePartsUptoSaid : Prop := inodePartsUptoRow.holds Try.pinned (OpenSpec.upto inodePartsSpec)

/-- 'cutwaterlaw08.TableHands', WHERE WHAT IT READS IS OF BULK AT MOST 1048576: true; the input reads as it did. -/
def tableHandsUptoRow : OpenClaim := { program := "ytgigbkgdbhikmaa", sum := "b17efc511d7694f0fe4c3c76daec36963f12d71da12d9e4215354bbeea5c94b8", func := "cutwater/cutwaterlaw08.TableHands", spec := "tableHands", inPlace := ["internal/abi.NoEscape", "internal/bytealg.MakeNoZero"], apart := false, narrowed := true }
def TableHandsUptoSaid : Prop := tableHandsUptoRow.holds Try.pinned (OpenSpec.upto tableHandsSpec)

/-- 'cutwaterlaw06.InodeBack', WHERE WHAT IT READS IS OF BULK AT MOST 1048576: true; the input reads as it did. -/
def inodeBackUptoRow : OpenClaim := { program := "ytgigbkgdbhikmaa", sum := "b17efc511d7694f0fe4c3c76daec36963f12d71da12d9e4215354bbeea5c94b8", func := "cutwater/cutwaterlaw06.InodeBack", spec := "inodeBack", inPlace := ["internal/abi.NoEscape", "internal/bytealg.MakeNoZero"], unfollowed := true, recurses := true, apart := false, narrowed := true }
def InodeBackUptoSaid : Prop := inodeBackUptoRow.holds Try.pinned (OpenSpec.upto inodeBackSpec)

/-- 'cutwaterlaw06.InodeFree', WHERE WHAT IT READS IS OF BULK AT MOST 1048576: true; the input reads as it did. -/
def inodeFreeUptoRow : OpenClaim := { program := "ytgigbkgdbhikmaa", sum := "b17efc511d7694f0fe4c3c76daec36963f12d71da12d9e4215354bbeea5c94b8", func := "cutwater/cutwaterlaw06.InodeFree", spec := "inodeFree", inPlace := ["internal/abi.NoEscape", "internal/bytealg.MakeNoZero"], unfollowed := true, recurses := true, apart := false, narrowed := true }
def InodeFreeUptoSaid : Prop := inodeFreeUptoRow.holds Try.pinned (OpenSpec.upto inodeFreeSpec)

/-- 'cutwaterlaw06.InodeLists', WHERE WHAT IT READS IS OF BULK AT MOST 1048576: true; the input reads as it did. -/
def inodeListsUptoRow : OpenClaim := { program := "ytgigbkgdbhikmaa", sum := "b17efc511d7694f0fe4c3c76daec36963f12d71da12d9e4215354bbeea5c94b8", func := "cutwater/cutwaterlaw06.InodeLists", spec := "inodeLists", inPlace := ["internal/abi.NoEscape", "internal/bytealg.MakeNoZero"], apart := false, narrowed := true }
def InodeListsUptoSaid : Prop := inodeListsUptoRow.holds Try.pinned (OpenSpec.upto inodeListsSpec)

/-- 'cutwaterlaw06.InodePatched', WHERE WHAT IT READS IS OF BULK AT MOST 1048576: true; the input reads as it did. -/
def inodePatchedUptoRow : OpenClaim := { program := "ytgigbkgdbhikmaa", sum := "b17efc511d7694f0fe4c3c76daec36963f12d71da12d9e4215354bbeea5c94b8", func := "cutwater/cutwaterlaw06.InodePatched", spec := "inodePatched", inPlace := ["internal/abi.NoEscape", "internal/bytealg.MakeNoZero"], unfollowed := true, recurses := true, apart := false, narrowed := true }
def InodePatchedUptoSaid : Prop := inodePatchedUptoRow.holds Try.pinned (OpenSpec.upto inodePatchedSpec)

/-- 'cutwaterlaw06.InodeReads', WHERE WHAT IT READS IS OF BULK AT MOST 1048576: true; the input reads as it did. -/
def inodeReadsUptoRow : OpenClaim := { program := "ytgigbkgdbhikmaa", sum := "b17efc511d7694f0fe4c3c76daec36963f12d71da12d9e4215354bbeea5c94b8", func := "cutwater/cutwaterlaw06.InodeReads", spec := "inodeReads", inPlace := ["internal/abi.NoEscape", "internal/bytealg.MakeNoZero"], unfollowed := true, recurses := true, apart := false, narrowed := true }
def InodeReadsUptoSaid : Prop := inodeReadsUptoRow.holds Try.pinned (OpenSpec.upto inodeReadsSpec)

end Rows
end Go.Proofs.Ytgigbkgdbhikmaa
