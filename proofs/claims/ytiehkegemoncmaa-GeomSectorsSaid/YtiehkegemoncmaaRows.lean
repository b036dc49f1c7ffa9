/-
  No cell of these rows narrows 'for every input' (looked for: loops, veiled, ifaces, maps, wideKeys, modest, calm, conditions, laid).
  DERIVED. THE GIVEN ROWS OF THIS SEAT. 12 by the template 'for every input the law returns true; each argument reads behind the call as it read before'; 0 by the template 'total and deterministic' (their statements: YtiehkegemoncmaaTotals.lean).
  GIVEN WITH THE SEED: the statements are not yours to turn. If you find one false, say at which input.
  Laid BY PROGRAM, IN A SANDBOX (cutbox-rows.mjs): the forced cells as the released guide's own fill.sh prints them over the translation 7379dff163690f08… (all of the seat's roots in one cut). By AI agents, Wed Nov 11 2026. No macro, syntax, notation, axiom, sorry.
-/
import Derived.Test.YtiehkegemoncmaaChecked
import GoSem.Claim
import GoSem.ClaimJoined
import GoSem.ClaimMapViews
import Derived.JoinedTies
import Derived.KernelRfl
namespace Go.Proofs.Ytiehkegemoncmaa
/- THE CELL 'sum', in the pinned program and in every row, IS THE sha256 OF THE DUMP (.gsa) THAT YtiehkegemoncmaaProg.lean LOADS. Nothing in Lean hashes anything: it is a label: what it is worth is what the hold of that sum in a sandbox is worth. -/
noncomputable def Try.pinned : Pinned := { name := "ytiehkegemoncmaa", sum := "7379dff163690f08fd418004b5ef3e67daf130808cadaae5eec19eedb37dac41", checked := Try.checked }
namespace Rows
def none {H : Type} : Left H := { results := [], args := [] }

/-- 'cutwaterlaw21.WireWrites': WHATEVER THE INPUT: true; the input reads as it did. -/
def wireWritesSpec : ChangeSpec := { name := "wireWrites", fn := fun _ => fun
  | [d] => { results := [.lit (.bool true)], args := [d] }
  | _ => none }
def wireWritesRow : OpenClaim := { program := "ytiehkegemoncmaa", sum := "7379dff163690f08fd418004b5ef3e67daf130808cadaae5eec19eedb37dac41", func := "cutwater/cutwaterlaw21.WireWrites", spec := "wireWrites", apart := false }
def WireWritesSaid : Prop := wireWritesRow.holds Try.pinned (OpenSpec.ofChange wireWritesSpec)

/-- ITS FALSE NEIGHBOUR: 'it returns false'. Refute it at one input. -/
def wireWritesWrong : ChangeSpec := { name := "wireWrites", fn := fun _ => fun
  | [d] => { results := [.lit (.bool false)], args := [d] }
  | _ => none }
def WireWritesWrongFalsely : Prop := wireWritesRow.holds Try.pinned (OpenSpec.ofChange wireWritesWrong)

/-- 'cutwaterlaw21.WireApart': WHATEVER THE INPUT: true; the input reads as it did. -/
def wireApartSpec : ChangeSpec := { name := "wireApart", fn := fun _ => fun
  | [d1, d2] => { results := [.lit (.bool true)], args := [d1, d2] }
  | _ => none }
def wireApartRow : OpenClaim := { program := "ytiehkegemoncmaa", sum := "7379dff163690f08fd418004b5ef3e67daf130808cadaae5eec19eedb37dac41", func := "cutwater/cutwaterlaw21.WireApart", spec := "wireApart", apart := false }
def WireApartSaid : Prop := wireApartRow.holds Try.pinned (OpenSpec.ofChange wireApartSpec)

/-- ITS FALSE NEIGHBOUR: 'it returns false'. Refute it at one input. -/
def wireApartWrong : ChangeSpec := { name := "wireApart", fn := fun _ => fun
  | [d1, d2] => { results := [.lit (.bool false)], args := [d1, d2] }
  | _ => none }
def WireApartWrongFalsely : Prop := wireApartRow.holds Try.pinned (OpenSpec.ofChange wireApartWrong)

/-- 'cutwaterlaw03.GeomSizes': WHATEVER THE INPUT: true; the input reads as it did. -/
def geomSizesSpec : ChangeSpec := { name := "geomSizes", fn := fun _ => fun
  | [d] => { results := [.lit (.bool true)], args := [d] }
  | _ => none }
def geomSizesRow : OpenClaim := { program := "ytiehkegemoncmaa", sum := "7379dff163690f08fd418004b5ef3e67daf130808cadaae5eec19eedb37dac41", func := "cutwater/cutwaterlaw03.GeomSizes", spec := "geomSizes", apart := false }
def GeomSizesSaid : Prop := geomSizesRow.holds Try.pinned (OpenSpec.ofChange geomSizesSpec)

/-- ITS FALSE NEIGHBOUR: 'it returns false'. Refute it at one input. -/
def geomSizesWrong : ChangeSpec := { name := "geomSizes", fn := fun _ => fun
  | [d] => { results := [.lit (.bool false)], args := [d] }
  | _ => none }
def GeomSizesWrongFalsely : Prop := geomSizesRow.holds Try.pinned (OpenSpec.ofChange geomSizesWrong)

/-- 'cutwaterlaw03.GeomPlaces': WHATEVER THE INPUT: true; the input reads as it did. -/
def geomPlacesSpec : ChangeSpec := { name := "geomPlaces", fn := fun _ => fun
  | [d1, d2, d3] => { results := [.lit (.bool true)], args := [d1, d2, d3] }
  | _ => none }
def geomPlacesRow : OpenClaim := { program := "ytiehkegemoncmaa", sum := "7379dff163690f08fd418004b5ef3e67daf130808cadaae5eec19eedb37dac41", func := "cutwater/cutwaterlaw03.GeomPlaces", spec := "geomPlaces", apart := false }
def GeomPlacesSaid : Prop := geomPlacesRow.holds Try.pinned (OpenSpec.ofChange geomPlacesSpec)

/-- ITS FALSE NEIGHBOUR: 'it returns false'. Refute it at one input. -/
def geomPlacesWrong : ChangeSpec := { name := "geomPlaces", fn := fun _ => fun
  | [d1, d2, d3] => { results := [.lit (.bool false)], args := [d1, d2, d3] }
  | _ => none }
def GeomPlacesWrongFalsely : Prop := geomPlacesRow.holds Try.pinned (OpenSpec.ofChange geomPlacesWrong)

/-- 'cutwaterlaw08.TableApart': WHATEVER THE INPUT: true; the input reads as it did. -/
def tableApartSpec : ChangeSpec := { name := "tableApart", fn := fun _ => fun
  | [d1, d2, d3] => { results := [.lit (.bool true)], args := [d1, d2, d3] }
  | _ => none }
def tableApartRow : OpenClaim := { program := "ytiehkegemoncmaa", sum := "7379dff163690f08fd418004b5ef3e67daf130808cadaae5eec19eedb37dac41", func := "cutwater/cutwaterlaw08.TableApart", spec := "tableApart", apart := false }
def TableApartSaid : Prop := tableApartRow.holds Try.pinned (OpenSpec.ofChange tableApartSpec)

/-- ITS FALSE NEIGHBOUR: 'it returns false'. Refute it at one input. -/
def tableApartWrong : ChangeSpec := { name := "tableApart", fn := fun _ => fun
  | [d1, d2, d3] => { results := [.lit (.bool false)], args := [d1, d2, d3] }
  | _ => none }
def TableApartWrongFalsely : Prop := tableApartRow.holds Try.pinned (OpenSpec.ofChange tableApartWrong)

/-- 'cutwaterlaw03.GeomRises': WHATEVER THE INPUT: true; the input reads as it did. -/
def geomRisesSpec : ChangeSpec := { name := "geomRises", fn := fun _ => fun
  | [d] => { results := [.lit (.bool true)], args := [d] }
  | _ => none }
def geomRisesRow : OpenClaim := { program := "ytiehkegemoncmaa", sum := "7379dff163690f08fd418004b5ef3e67daf130808cadaae5eec19eedb37dac41", func := "cutwater/cutwaterlaw03.GeomRises", spec := "geomRises", apart := false }
def GeomRisesSaid : Prop := geomRisesRow.holds Try.pinned (OpenSpec.ofChange geomRisesSpec)

/-- ITS FALSE NEIGHBOUR: 'it returns false'. Refute it at one input. -/
def geomRisesWrong : ChangeSpec := { name := "geomRises", fn := fun _ => fun
  | [d] => { results := [.lit (.bool false)], args := [d] }
  | _ => none }
def GeomRisesWrongFalsely : Prop := geomRisesRow.holds Try.pinned (OpenSpec.ofChange geomRisesWrong)

/-- 'cutwaterlaw03.GeomFits': WHATEVER THE INPUT: true; the input reads as it did. -/
def geomFitsSpec : ChangeSpec := { name := "geomFits", fn := fun _ => fun
  | [d] => { results := [.lit (.bool true)], args := [d] }
  | _ => none }
def geomFitsRow : OpenClaim := { program := "ytiehkegemoncmaa", sum := "7379dff163690f08fd418004b5ef3e67daf130808cadaae5eec19eedb37dac41", func := "cutwater/cutwaterlaw03.GeomFits", spec := "geomFits", apart := false }
def GeomFitsSaid : Prop := geomFitsRow.holds Try.pinned (OpenSpec.ofChange geomFitsSpec)

/-- ITS FALSE NEIGHBOUR: 'it returns false'. Refute it at one input. -/
def geomFitsWrong : ChangeSpec := { name := "geomFits", fn := fun _ => fun
  | [d] => { results := [.lit (.bool false)], args := [d] }
  | _ => none }
def GeomFitsWrongFalsely : Prop := geomFitsRow.holds Try.pinned (OpenSpec.ofChange geomFitsWrong)

/-- 'cutwaterlaw03.GeomRegions': WHATEVER THE INPUT: true; the input reads as it did. -/
def geomRegionsSpec : ChangeSpec := { name := "geomRegions", fn := fun _ => fun
  | [d1, d2, d3] => { results := [.lit (.bool true)], args := [d1, d2, d3] }
  | _ => none }
def geomRegionsRow : OpenClaim := { program := "ytiehkegemoncmaa", sum := "7379dff163690f08fd418004b5ef3e67daf130808cadaae5eec19eedb37dac41", func := "cutwater/cutwaterlaw03.GeomRegions", spec := "geomRegions", apart := false }
def GeomRegionsSaid : Prop := geomRegionsRow.holds Try.pinned (OpenSpec.ofChange geomRegionsSpec)

/-- ITS FALSE NEIGHBOUR: 'it returns false'. Refute it at one input. -/
def geomRegionsWrong : ChangeSpec := { name := "geomRegions", fn := fun _ => fun
  | [d1, d2, d3] => { results := [.lit (.bool false)], args := [d1, d2, d3] }
  | _ => none }
def GeomRegionsWrongFalsely : Prop := geomRegionsRow.holds Try.pinned (OpenSpec.ofChange geomRegionsWrong)

/-- 'cutwaterlaw03.GeomSectors': WHATEVER THE INPUT: true; the input reads as it did. -/
def geomSectorsSpec : ChangeSpec := { name := "geomSectors", fn := fun _ => fun
  | [d1, d2] => { results := [.lit (.bool true)], args := [d1, d2] }
  | _ => none }
def geomSectorsRow : OpenClaim := { program := "ytiehkegemoncmaa", sum := "7379dff163690f08fd418004b5ef3e67daf130808cadaae5eec19eedb37dac41", func := "cutwater/cutwaterlaw03.GeomSectors", spec := "geomSectors", apart := false }
def GeomSectorsSaid : Prop := geomSectorsRow.holds Try.pinned (OpenSpec.ofChange geomSectorsSpec)

/-- ITS FALSE NEIGHBOUR: 'it returns false'. Refute it at one input. -/
def geomSectorsWrong : ChangeSpec := { name := "geomSectors", fn := fun _ => fun
  | [d1, d2] => { results := [.lit (.bool false)], args := [d1, d2] }
  | _ => none }
def GeomSectorsWrongFalsely : Prop := geomSectorsRow.holds Try.pinned (OpenSpec.ofChange geomSectorsWrong)

/-- 'cutwaterlaw21.WireReads': WHATEVER THE INPUT: true; the input reads as it did. -/
def wireReadsSpec : ChangeSpec := { name := "wireReads", fn := fun _ => fun
  | [d] => { results := [.lit (.bool true)], args := [d] }
  | _ => none }
def wireReadsRow : OpenClaim := { program := "ytiehkegemoncmaa", sum := "7379dff163690f08fd418004b5ef3e67daf130808cadaae5eec19eedb37dac41", func := "cutwater/cutwaterlaw21.WireReads", spec := "wireReads", inPlace := ["internal/abi.NoEscape", "internal/bytealg.MakeNoZero"], apart := false }
def WireReadsSaid : Prop := wireReadsRow.holds Try.pinned (OpenSpec.ofChange wireReadsSpec)

/-- ITS FALSE NEIGHBOUR: 'it returns false'. Refute it at one input. -/
def wireReadsWrong : ChangeSpec := { name := "wireReads", fn := fun _ => fun
  | [d] => { results := [.lit (.bool false)], args := [d] }
  | _ => none }
def WireReadsWrongFalsely : Prop := wireReadsRow.holds Try.pinned (OpenSpec.ofChange wireReadsWrong)

/-- 'cutwaterlaw21.WireBack': WHATEVER THE INPUT: true; the input reads as it did. -/
def wireBackSpec : ChangeSpec := { name := "wireBack", fn := fun _ => fun
  | [d1, d2] => { results := [.lit (.bool true)], args := [d1, d2] }
  | _ => none }
def wireBackRow : OpenClaim := { program := "ytiehkegemoncmaa", sum := "7379dff163690f08fd418004b5ef3e67daf130808cadaae5eec19eedb37dac41", func := "cutwater/cutwaterlaw21.WireBack", spec := "wireBack", inPlace := ["internal/abi.NoEscape", "internal/bytealg.MakeNoZero"], apart := false }
def WireBackSaid : Prop := wireBackRow.holds Try.pinned (OpenSpec.ofChange wireBackSpec)

/-- ITS FALSE NEIGHBOUR: 'it returns false'. Refute it at one input. -/
def wireBackWrong : ChangeSpec := { name := "wireBack", fn := fun _ => fun
  | [d1, d2] => { results := [.lit (.bool false)], args := [d1, d2] }
  | _ => none }
def WireBackWrongFalsely : Prop := wireBackRow.holds Try.pinned (OpenSpec.ofChange wireBackWrong)

/-- 'cutwaterlaw21.WireTurned': WHATEVER THE INPUT: true; the input reads as it did. -/
def wireTurnedSpec : ChangeSpec := { name := "wireTurned", fn := fun _ => fun
  | [d1, d2, d3] => { results := [.lit (.bool true)], args := [d1, d2, d3] }
  | _ => none }
def wireTurnedRow : OpenClaim := { program := "ytiehkegemoncmaa", sum := "7379dff163690f08fd418004b5ef3e67daf130808cadaae5eec19eedb37dac41", func := "cutwater/cutwaterlaw21.WireTurned", spec := "wireTurned", inPlace := ["internal/abi.NoEscape", "internal/bytealg.MakeNoZero"], apart := false }
def WireTurnedSaid : Prop := wireTurnedRow.holds Try.pinned (OpenSpec.ofChange wireTurnedSpec)

/-- ITS FALSE NEIGHBOUR: 'it returns false'. Refute it at one input. -/
def wireTurnedWrong : ChangeSpec := { name := "wireTurned", fn := fun _ => fun
  | [d1, d2, d3] => { results := [.lit (.bool false)], args := [d1, d2, d3] }
  | _ => none }
def WireTurnedWrongFalsely : Prop := wireTurnedRow.holds Try.pinned (OpenSpec.ofChange wireTurnedWrong)

/- THE SECOND FORM. 'bulk': how many values and letters a reading holds, each counted each time it is reached (what is shared counts as often as it is met; a slice's spare places count too). A statement '..UptoSaid' is the law's where the arguments, and the package variables that the reading takes, are together of bulk at most 1048576: NARROWER than '..Said'. Prove '..Said' where nothing that the law and all that it calls make is longer than what came in: it says more and counts as full. Else prove '..UptoSaid'. A law counts once. -/
mutual
def uptoBulk {H : Type} : DataW H → Nat
  | .lit (.string bytes) => bytes.length + 1
  | .lit _ => 1
  | .nil => 1
  | .ptr d => uptoBulk d + 1
  | .slice elems spare => uptoBulkAll elems + uptoBulkAll spare + 1
  | .agg parts => uptoBulkAll parts + 1
  | .iface _ d => uptoBulk d + 1
  | .map entries => uptoBulkEntries entries + 1
  | .held _ => 1
def uptoBulkAll {H : Type} : List (DataW H) → Nat
  | [] => 0
  | d :: r => uptoBulk d + uptoBulkAll r
def uptoBulkEntries {H : Type} : List (Lit × DataW H) → Nat
  | [] => 0
  | x :: r => uptoBulkEntry x + uptoBulkEntries r
def uptoBulkEntry {H : Type} : Lit × DataW H → Nat
  | (.string bytes, d) => bytes.length + uptoBulk d + 1
  | (_, d) => uptoBulk d + 1
 end
def uptoSmall : (H : Type) → List (DataW H) → Bool := fun _ ds => decide (uptoBulkAll ds ≤ 1048576)
def OpenSpec.upto (s : _root_.Go.ChangeSpec) : _root_.Go.OpenSpec := { _root_.Go.OpenSpec.ofChange s with cond := some uptoSmall }

/-- 'cutwaterlaw21.WireWrites', WHERE WHAT IT READS IS OF BULK AT MOST 1048576: true; the input reads as it did. -/
def wireWritesUptoRow : OpenClaim := { program := "ytiehkegemoncmaa", sum := "7379dff163690f08fd418004b5ef3e67daf130808cadaae5eec19eedb37dac41", func := "cutwater/cutwaterlaw21.WireWrites", spec := "wireWrites", apart := false, narrowed := true }
def WireWritesUptoSaid : Prop := wireWritesUptoRow.holds Try.pinned (OpenSpec.upto wireWritesSpec)

/-- 'cutwaterlaw21.WireApart', WHERE WHAT IT READS IS OF BULK AT MOST 1048576: true; the input reads as it did. -/
def wireApartUptoRow : OpenClaim := { program := "ytiehkegemoncmaa", sum := "7379dff163690f08fd418004b5ef3e67daf130808cadaae5eec19eedb37dac41", func := "cutwater/cutwaterlaw21.WireApart", spec := "wireApart", apart := false, narrowed := true }
def WireApartUptoSaid : Prop := wireApartUptoRow.holds Try.pinned (OpenSpec.upto wireApartSpec)

/-- 'cutwaterlaw03.GeomSizes', WHERE WHAT IT READS IS OF BULK AT MOST 1048576: true; the input reads as it did. -/
def geomSizesUptoRow : OpenClaim := { program := "ytiehkegemoncmaa", sum := "7379dff163690f08fd418004b5ef3e67daf130808cadaae5eec19eedb37dac41", func := "cutwater/cutwaterlaw03.GeomSizes", spec := "geomSizes", apart := false, narrowed := true }
def GeomSizesUptoSaid : Prop := geomSizesUptoRow.holds Try.pinned (OpenSpec.upto geomSizesSpec)

/-- 'cutwaterlaw03.GeomPlaces', WHERE WHAT IT READS IS OF BULK AT MOST 1048576: true; the input reads as it did. -/
def geomPlacesUptoRow : OpenClaim := { program := "ytiehkegemoncmaa", sum := "7379dff163690f08fd418004b5ef3e67daf130808cadaae5eec19eedb37dac41", func := "cutwater/cutwaterlaw03.GeomPlaces", spec := "geomPlaces", apart := false, narrowed := true }
def GeomPlacesUptoSaid : Prop := geomPlacesUptoRow.holds Try.pinned (OpenSpec.upto geomPlacesSpec)

/-- 'cutwaterlaw08.TableApart', WHERE WHAT IT READS IS OF BULK AT MOST 1048576: true; the input reads as it did. -/
def tableApartUptoRow : OpenClaim := { program := "ytiehkegemoncmaa", sum := "7379dff163690f08fd418004b5ef3e67daf130808cadaae5eec19eedb37dac41", func := "cutwater/cutwaterlaw08.TableApart", spec := "tableApart", apart := false, narrowed := true }
def TableApartUptoSaid : Prop := tableApartUptoRow.holds Try.pinned (OpenSpec.upto tableApartSpec)

/-- 'cutwaterlaw03.GeomRises', WHERE WHAT IT READS IS OF BULK AT MOST 1048576: true; the input reads as it did. -/
def geomRisesUptoRow : OpenClaim := { program := "ytiehkegemoncmaa", sum := "7379dff163690f08fd418004b5ef3e67daf130808cadaae5eec19eedb37dac41", func := "cutwater/cutwaterlaw03.GeomRises", spec := "geomRises", apart := false, narrowed := true }
def GeomRisesUptoSaid : Prop := geomRisesUptoRow.holds Try.pinned (OpenSpec.upto geomRisesSpec)

/-- 'cutwaterlaw03.GeomFits', WHERE WHAT IT READS IS OF BULK AT MOST 1048576: true; the input reads as it did. -/
def geomFitsUptoRow : OpenClaim := { program := "ytiehkegemoncmaa", sum := "7379dff163690f08fd418004b5ef3e67daf130808cadaae5eec19eedb37dac41", func := "cutwater/cutwaterlaw03.GeomFits", spec := "geomFits", apart := false, narrowed := true }
def GeomFitsUptoSaid : Prop := geomFitsUptoRow.holds Try.pinned (OpenSpec.upto geomFitsSpec)

/-- 'cutwaterlaw03.GeomRegions', WHERE WHAT IT READS IS OF BULK AT MOST 1048576: true; the input reads as it did. -/
def geomRegionsUptoRow : OpenClaim := { program := "ytiehkegemoncmaa", sum := "7379dff163690f08fd418004b5ef3e67daf130808cadaae5eec19eedb37dac41", func := "cutwater/cutwaterlaw03.GeomRegions", spec := "geomRegions", apart := false, narrowed := true }
def GeomRegionsUptoSaid : Prop := geomRegionsUptoRow.holds Try.pinned (OpenSpec.upto geomRegionsSpec)

/-- 'cutwaterlaw03.GeomSectors', WHERE WHAT IT READS IS OF BULK AT MOST 1048576: true; the input reads as it did. -/
def geomSectorsUptoRow : OpenClaim := { program := "ytiehkegemoncmaa", sum := "7379dff163690f08fd418004b5ef3e67daf130808cadaae5eec19eedb37dac41", func := "cutwater/cutwaterlaw03.GeomSectors", spec := "geomSectors", apart := false, narrowed := true }
def GeomSectorsUptoSaid : Prop := geomSectorsUptoRow.holds Try.pinned (OpenSpec.upto geomSectorsSpec)

/-- 'cutwaterlaw21.WireReads', WHERE WHAT IT READS IS OF BULK AT MOST 1048576: true; the input reads as it did. -/
def wireReadsUptoRow : OpenClaim := { program := "ytiehkegemoncmaa", sum := "7379dff163690f08fd418004b5ef3e67daf130808cadaae5eec19eedb37dac41", func := "cutwater/cutwaterlaw21.WireReads", spec := "wireReads", inPlace := ["internal/abi.NoEscape", "internal/bytealg.MakeNoZero"], apart := false, narrowed := true }
def WireReadsUptoSaid : Prop := wireReadsUptoRow.holds Try.pinned (OpenSpec.upto wireReadsSpec)

/-- 'cutwaterlaw21.WireBack', WHERE WHAT IT READS IS OF BULK AT MOST 1048576: true; the input reads as it did. -/
def wireBackUptoRow : OpenClaim := { program := "ytiehkegemoncmaa", sum := "7379dff163690f08fd418004b5ef3e67daf130808cadaae5eec19eedb37dac41", func := "cutwater/cutwaterlaw21.WireBack", spec := "wireBack", inPlace := ["internal/abi.NoEscape", "internal/bytealg.MakeNoZero"], apart := false, narrowed := true }
def WireBackUptoSaid : Prop := wireBackUptoRow.holds Try.pinned (OpenSpec.upto wireBackSpec)

/-- 'cutwaterlaw21.WireTurned', WHERE WHAT IT READS IS OF BULK AT MOST 1048576: true; the input reads as it did. -/
def wireTurnedUptoRow : OpenClaim := { program := "ytiehkegemoncmaa", sum := "7379dff163690f08fd418004b5ef3e67daf130808cadaae5eec19eedb37dac41", func := "cutwater/cutwaterlaw21.WireTurned", spec := "wireTurned", inPlace := ["internal/abi.NoEscape", "internal/bytealg.MakeNoZero"], apart := false, narrowed := true }
def WireTurnedUptoSaid : Prop := wireTurnedUptoRow.holds Try.pinned (OpenSpec.upto wireTurnedSpec)

end Rows
end Go.Proofs.Ytiehkegemoncmaa
