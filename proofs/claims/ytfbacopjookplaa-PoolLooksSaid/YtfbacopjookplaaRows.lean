/-
  No cell of these rows narrows 'for every input' (looked for: loops, veiled, ifaces, maps, wideKeys, modest, calm, conditions, laid).
  DERIVED. THE GIVEN ROWS OF THIS SEAT. 9 by the template 'for every input the law returns true; each argument reads behind the call as it read before'; 0 by the template 'total and deterministic' (their statements: YtfbacopjookplaaTotals.lean).
  GIVEN WITH THE SEED: the statements are not yours to turn. If you find one false, say at which input.
  Laid BY PROGRAM, IN A SANDBOX (cutbox-rows.mjs): the forced cells as the released guide's own fill.sh prints them over the translation 2951bfbd26602797… (all of the seat's roots in one cut). By AI agents, Wed Nov 11 2026. No macro, syntax, notation, axiom, sorry.
-/
import Derived.Test.YtfbacopjookplaaChecked
import GoSem.Claim
import GoSem.ClaimJoined
import GoSem.ClaimMapViews
import Derived.JoinedTies
import Derived.KernelRfl
namespace Go.Proofs.Ytfbacopjookplaa
/- THE CELL 'sum', in the pinned program and in every row, IS THE sha256 OF THE DUMP (.gsa) THAT YtfbacopjookplaaProg.lean LOADS. Nothing in Lean hashes anything: it is a label: what it is worth is what the hold of that sum in a sandbox is worth. -/
noncomputable def Try.pinned : Pinned := { name := "ytfbacopjookplaa", sum := "2951bfbd266027978d017787674d72fc2fbd3faa5fe51f41a263099afce85ed3", checked := Try.checked }
namespace Rows
def none {H : Type} : Left H := { results := [], args := [] }

/-- 'reclaimlaw10.PoolFrees': WHATEVER THE INPUT: true; the input reads as it did. -/
def poolFreesSpec : ChangeSpec := { name := "poolFrees", fn := fun _ => fun
  | [d1, d2] => { results := [.lit (.bool true)], args := [d1, d2] }
  | _ => none }
def poolFreesRow : OpenClaim := { program := "ytfbacopjookplaa", sum := "2951bfbd266027978d017787674d72fc2fbd3faa5fe51f41a263099afce85ed3", func := "reclaim/reclaimlaw10.PoolFrees", spec := "poolFrees", apart := false }
def PoolFreesSaid : Prop := poolFreesRow.holds Try.pinned (OpenSpec.ofChange poolFreesSpec)

/-- ITS FALSE NEIGHBOUR: 'it returns false'. Refute it at one input. -/
def poolFreesWrong : ChangeSpec := { name := "poolFrees", fn := fun _ => fun
  | [d1, d2] => { results := [.lit (.bool false)], args := [d1, d2] }
  | _ => none }
def PoolFreesWrongFalsely : Prop := poolFreesRow.holds Try.pinned (OpenSpec.ofChange poolFreesWrong)

/-- 'reclaimlaw10.PoolLooks': WHATEVER THE INPUT: true; the input reads as it did. -/
def poolLooksSpec : ChangeSpec := { name := "poolLooks", fn := fun _ => fun
  | [d1, d2] => { results := [.lit (.bool true)], args := [d1, d2] }
  | _ => none }
def poolLooksRow : OpenClaim := { program := "ytfbacopjookplaa", sum := "2951bfbd266027978d017787674d72fc2fbd3faa5fe51f41a263099afce85ed3", func := "reclaim/reclaimlaw10.PoolLooks", spec := "poolLooks", unfollowed := true, recurses := true, apart := false }
def PoolLooksSaid : Prop := poolLooksRow.holds Try.pinned (OpenSpec.ofChange poolLooksSpec)

/-- ITS FALSE NEIGHBOUR: 'it returns false'. Refute it at one input. -/
def poolLooksWrong : ChangeSpec := { name := "poolLooks", fn := fun _ => fun
  | [d1, d2] => { results := [.lit (.bool false)], args := [d1, d2] }
  | _ => none }
def PoolLooksWrongFalsely : Prop := poolLooksRow.holds Try.pinned (OpenSpec.ofChange poolLooksWrong)

/-- 'reclaimlaw13.CensusMays': WHATEVER THE INPUT: true; the input reads as it did. -/
def censusMaysSpec : ChangeSpec := { name := "censusMays", fn := fun _ => fun
  | [d] => { results := [.lit (.bool true)], args := [d] }
  | _ => none }
def censusMaysRow : OpenClaim := { program := "ytfbacopjookplaa", sum := "2951bfbd266027978d017787674d72fc2fbd3faa5fe51f41a263099afce85ed3", func := "reclaim/reclaimlaw13.CensusMays", spec := "censusMays", unfollowed := true, recurses := true, apart := false }
def CensusMaysSaid : Prop := censusMaysRow.holds Try.pinned (OpenSpec.ofChange censusMaysSpec)

/-- ITS FALSE NEIGHBOUR: 'it returns false'. Refute it at one input. -/
def censusMaysWrong : ChangeSpec := { name := "censusMays", fn := fun _ => fun
  | [d] => { results := [.lit (.bool false)], args := [d] }
  | _ => none }
def CensusMaysWrongFalsely : Prop := censusMaysRow.holds Try.pinned (OpenSpec.ofChange censusMaysWrong)

/-- 'reclaimlaw13.CensusFaults': WHATEVER THE INPUT: true; the input reads as it did. -/
def censusFaultsSpec : ChangeSpec := { name := "censusFaults", fn := fun _ => fun
  | [d] => { results := [.lit (.bool true)], args := [d] }
  | _ => none }
def censusFaultsRow : OpenClaim := { program := "ytfbacopjookplaa", sum := "2951bfbd266027978d017787674d72fc2fbd3faa5fe51f41a263099afce85ed3", func := "reclaim/reclaimlaw13.CensusFaults", spec := "censusFaults", unfollowed := true, recurses := true, apart := false }
def CensusFaultsSaid : Prop := censusFaultsRow.holds Try.pinned (OpenSpec.ofChange censusFaultsSpec)

/-- ITS FALSE NEIGHBOUR: 'it returns false'. Refute it at one input. -/
def censusFaultsWrong : ChangeSpec := { name := "censusFaults", fn := fun _ => fun
  | [d] => { results := [.lit (.bool false)], args := [d] }
  | _ => none }
def CensusFaultsWrongFalsely : Prop := censusFaultsRow.holds Try.pinned (OpenSpec.ofChange censusFaultsWrong)

/-- 'reclaimlaw13.CensusBounds': WHATEVER THE INPUT: true; the input reads as it did. -/
def censusBoundsSpec : ChangeSpec := { name := "censusBounds", fn := fun _ => fun
  | [d] => { results := [.lit (.bool true)], args := [d] }
  | _ => none }
def censusBoundsRow : OpenClaim := { program := "ytfbacopjookplaa", sum := "2951bfbd266027978d017787674d72fc2fbd3faa5fe51f41a263099afce85ed3", func := "reclaim/reclaimlaw13.CensusBounds", spec := "censusBounds", unfollowed := true, recurses := true, apart := false }
def CensusBoundsSaid : Prop := censusBoundsRow.holds Try.pinned (OpenSpec.ofChange censusBoundsSpec)

/-- ITS FALSE NEIGHBOUR: 'it returns false'. Refute it at one input. -/
def censusBoundsWrong : ChangeSpec := { name := "censusBounds", fn := fun _ => fun
  | [d] => { results := [.lit (.bool false)], args := [d] }
  | _ => none }
def CensusBoundsWrongFalsely : Prop := censusBoundsRow.holds Try.pinned (OpenSpec.ofChange censusBoundsWrong)

/-- 'reclaimlaw13.CensusGrows': WHATEVER THE INPUT: true; the input reads as it did. -/
def censusGrowsSpec : ChangeSpec := { name := "censusGrows", fn := fun _ => fun
  | [d1, d2] => { results := [.lit (.bool true)], args := [d1, d2] }
  | _ => none }
def censusGrowsRow : OpenClaim := { program := "ytfbacopjookplaa", sum := "2951bfbd266027978d017787674d72fc2fbd3faa5fe51f41a263099afce85ed3", func := "reclaim/reclaimlaw13.CensusGrows", spec := "censusGrows", unfollowed := true, recurses := true, apart := false }
def CensusGrowsSaid : Prop := censusGrowsRow.holds Try.pinned (OpenSpec.ofChange censusGrowsSpec)

/-- ITS FALSE NEIGHBOUR: 'it returns false'. Refute it at one input. -/
def censusGrowsWrong : ChangeSpec := { name := "censusGrows", fn := fun _ => fun
  | [d1, d2] => { results := [.lit (.bool false)], args := [d1, d2] }
  | _ => none }
def CensusGrowsWrongFalsely : Prop := censusGrowsRow.holds Try.pinned (OpenSpec.ofChange censusGrowsWrong)

/-- 'reclaimlaw13.CensusStates': WHATEVER THE INPUT: true; the input reads as it did. -/
def censusStatesSpec : ChangeSpec := { name := "censusStates", fn := fun _ => fun
  | [d] => { results := [.lit (.bool true)], args := [d] }
  | _ => none }
def censusStatesRow : OpenClaim := { program := "ytfbacopjookplaa", sum := "2951bfbd266027978d017787674d72fc2fbd3faa5fe51f41a263099afce85ed3", func := "reclaim/reclaimlaw13.CensusStates", spec := "censusStates", unfollowed := true, recurses := true, apart := false }
def CensusStatesSaid : Prop := censusStatesRow.holds Try.pinned (OpenSpec.ofChange censusStatesSpec)

/-- ITS FALSE NEIGHBOUR: 'it returns false'. Refute it at one input. -/
def censusStatesWrong : ChangeSpec := { name := "censusStates", fn := fun _ => fun
  | [d] => { results := [.lit (.bool false)], args := [d] }
  | _ => none }
def CensusStatesWrongFalsely : Prop := censusStatesRow.holds Try.pinned (OpenSpec.ofChange censusStatesWrong)

/-- 'reclaimlaw13.CensusDishonest': WHATEVER THE INPUT: true; the input reads as it did. -/
def censusDishonestSpec : ChangeSpec := { name := "censusDishonest", fn := fun _ => fun
  | [d] => { results := [.lit (.bool true)], args := [d] }
  | _ => none }
def censusDishonestRow : OpenClaim := { program := "ytfbacopjookplaa", sum := "2951bfbd266027978d017787674d72fc2fbd3faa5fe51f41a263099afce85ed3", func := "reclaim/reclaimlaw13.CensusDishonest", spec := "censusDishonest", unfollowed := true, recurses := true, apart := false }
def CensusDishonestSaid : Prop := censusDishonestRow.holds Try.pinned (OpenSpec.ofChange censusDishonestSpec)

/-- ITS FALSE NEIGHBOUR: 'it returns false'. Refute it at one input. -/
def censusDishonestWrong : ChangeSpec := { name := "censusDishonest", fn := fun _ => fun
  | [d] => { results := [.lit (.bool false)], args := [d] }
  | _ => none }
def CensusDishonestWrongFalsely : Prop := censusDishonestRow.holds Try.pinned (OpenSpec.ofChange censusDishonestWrong)

/-- 'reclaimlaw13.CensusPeaks': WHATEVER THE INPUT: true; the input reads as it did. -/
def censusPeaksSpec : ChangeSpec := { name := "censusPeaks", fn := fun _ => fun
  | [d] => { results := [.lit (.bool true)], args := [d] }
  | _ => none }
def censusPeaksRow : OpenClaim := { program := "ytfbacopjookplaa", sum := "2951bfbd266027978d017787674d72fc2fbd3faa5fe51f41a263099afce85ed3", func := "reclaim/reclaimlaw13.CensusPeaks", spec := "censusPeaks", unfollowed := true, recurses := true, apart := false }
def CensusPeaksSaid : Prop := censusPeaksRow.holds Try.pinned (OpenSpec.ofChange censusPeaksSpec)

/-- ITS FALSE NEIGHBOUR: 'it returns false'. Refute it at one input. -/
def censusPeaksWrong : ChangeSpec := { name := "censusPeaks", fn := fun _ => fun
  | [d] => { results := [.lit (.bool false)], args := [d] }
  | _ => none }
def CensusPeaksWrongFalsely : Prop := censusPeaksRow.holds Try.pinned (OpenSpec.ofChange censusPeaksWrong)

/- THE SECOND FORM. 'bulk': how many values and letters a reading holds, each counted each time it is reached (what is shared counts as often as it is met; a slice's spare places count too). A statement '..UptoSaid' is the law's where the arguments, and the package variables that the reading takes, are together of bulk at most 1048576: NARROWER than '..Said'. Prove '..Said' where nothing that the law and all that it calls make is longer than what came in: it says more and counts as full. Else prove '..UptoSaid'. A law counts once. -/
mutual
def uptoBulk {H : Type} : DataW H → Nat
  | .lit (.string bytes) => bytes.length + 1
  | .lit _ => 1
  | .nil => 1
  | .ptr d => uptoBulk d + 1
  | .slice elems spare => uptoBulkAll elems + uptoBulkAll spare + 1
  | .agg parts => uptoBulkAll parts + 1
  | .iface _ d => uptoBulk d + 1
  | .map entries => uptoBulkEntries entries + 1
  | .held _ => 1
def uptoBulkAll {H : Type} : List (DataW H) → Nat
  | [] => 0
  | d :: r => uptoBulk d + uptoBulkAll r
def uptoBulkEntries {H : Type} : List (Lit × DataW H) → Nat
  | [] => 0
  | x :: r => uptoBulkEntry x + uptoBulkEntries r
def uptoBulkEntry {H : Type} : Lit × DataW H → Nat
  | (.string bytes, d) => bytes.length + uptoBulk d + 1
  | (_, d) => uptoBulk d + 1
 end
def uptoSmall : (H : Type) → List (DataW H) → Bool := fun _ ds => decide (uptoBulkAll ds ≤ 1048576)
def OpenSpec.upto (s : _root_.Go.ChangeSpec) : _root_.Go.OpenSpec := { _root_.Go.OpenSpec.ofChange s with cond := some uptoSmall }

/-- 'reclaimlaw10.PoolFrees', WHERE WHAT IT READS IS OF BULK AT MOST 1048576: true; the input reads as it did. -/
def poolFreesUptoRow : OpenClaim := { program := "ytfbacopjookplaa", sum := "2951bfbd266027978d017787674d72fc2fbd3faa5fe51f41a263099afce85ed3", func := "reclaim/reclaimlaw10.PoolFrees", spec := "poolFrees", apart := false, narrowed := true }
def PoolFreesUptoSaid : Prop := poolFreesUptoRow.holds Try.pinned (OpenSpec.upto poolFreesSpec)

/-- 'reclaimlaw10.PoolLooks', WHERE WHAT IT READS IS OF BULK AT MOST 1048576: true; the input reads as it did. -/
def poolLooksUptoRow : OpenClaim := { program := "ytfbacopjookplaa", sum := "2951bfbd266027978d017787674d72fc2fbd3faa5fe51f41a263099afce85ed3", func := "reclaim/reclaimlaw10.PoolLooks", spec := "poolLooks", unfollowed := true, recurses := true, apart := false, narrowed := true }
def PoolLooksUptoSaid : Prop := poolLooksUptoRow.holds Try.pinned (OpenSpec.upto poolLooksSpec)

/-- 'reclaimlaw13.CensusMays', WHERE WHAT IT READS IS OF BULK AT MOST 1048576: true; the input reads as it did. -/
def censusMaysUptoRow : OpenClaim := { program := "ytfbacopjookplaa", sum := "2951bfbd266027978d017787674d72fc2fbd3faa5fe51f41a263099afce85ed3", func := "reclaim/reclaimlaw13.CensusMays", spec := "censusMays", unfollowed := true, recurses := true, apart := false, narrowed := true }
def CensusMaysUptoSaid : Prop := censusMaysUptoRow.holds Try.pinned (OpenSpec.upto censusMaysSpec)

/-- 'reclaimlaw13.CensusFaults', WHERE WHAT IT READS IS OF BULK AT MOST 1048576: true; the input reads as it did. -/
def censusFaultsUptoRow : OpenClaim := { program := "ytfbacopjookplaa", sum := "2951bfbd266027978d017787674d72fc2fbd3faa5fe51f41a263099afce85ed3", func := "reclaim/reclaimlaw13.CensusFaults", spec := "censusFaults", unfollowed := true, recurses := true, apart := false, narrowed := true }
def CensusFaultsUptoSaid : Prop := censusFaultsUptoRow.holds Try.pinned (OpenSpec.upto censusFaultsSpec)

/-- 'reclaimlaw13.CensusBounds', WHERE WHAT IT READS IS OF BULK AT MOST 1048576: true; the input reads as it did. -/
def censusBoundsUptoRow : OpenClaim := { program := "ytfbacopjookplaa", sum := "2951bfbd266027978d017787674d72fc2fbd3faa5fe51f41a263099afce85ed3", func := "reclaim/reclaimlaw13.CensusBounds", spec := "censusBounds", unfollowed := true, recurses := true, apart := false, narrowed := true }
def CensusBoundsUptoSaid : Prop := censusBoundsUptoRow.holds Try.pinned (OpenSpec.upto censusBoundsSpec)

/-- 'reclaimlaw13.CensusGrows', WHERE WHAT IT READS IS OF BULK AT MOST 1048576: true; the input reads as it did. -/
def censusGrowsUptoRow : OpenClaim := { program := "ytfbacopjookplaa", sum := "2951bfbd266027978d017787674d72fc2fbd3faa5fe51f41a263099afce85ed3", func := "reclaim/reclaimlaw13.CensusGrows", spec := "censusGrows", unfollowed := true, recurses := true, apart := false, narrowed := true }
def CensusGrowsUptoSaid : Prop := censusGrowsUptoRow.holds Try.pinned (OpenSpec.upto censusGrowsSpec)

/-- 'reclaimlaw13.CensusStates', WHERE WHAT IT READS IS OF BULK AT MOST 1048576: true; the input reads as it did. -/
def censusStatesUptoRow : OpenClaim := { program := "ytfbacopjookplaa", sum := "2951bfbd266027978d017787674d72fc2fbd3faa5fe51f41a263099afce85ed3", func := "reclaim/reclaimlaw13.CensusStates", spec := "censusStates", unfollowed := true, recurses := true, apart := false, narrowed := true }
def CensusStatesUptoSaid : Prop := censusStatesUptoRow.holds Try.pinned (OpenSpec.upto censusStatesSpec)

/-- 'reclaimlaw13.CensusDishonest', WHERE WHAT IT READS IS OF BULK AT MOST 1048576: true; the input reads as it did. -/
def censusDishonestUptoRow : OpenClaim := { program := "ytfbacopjookplaa", sum := "2951bfbd266027978d017787674d72fc2fbd3faa5fe51f41a263099afce85ed3", func := "reclaim/reclaimlaw13.CensusDishonest", spec := "censusDishonest", unfollowed := true, recurses := true, apart := false, narrowed := true }
def CensusDishonestUptoSaid : Prop := censusDishonestUptoRow.holds Try.pinned (OpenSpec.upto censusDishonestSpec)

/-- 'reclaimlaw13.CensusPeaks', WHERE WHAT IT READS IS OF BULK AT MOST 1048576: true; the input reads as it did. -/
def censusPeaksUptoRow : OpenClaim := { program := "ytfbacopjookplaa", sum := "2951bfbd266027978d017787674d72fc2fbd3faa5fe51f41a263099afce85ed3", func := "reclaim/reclaimlaw13.CensusPeaks", spec := "censusPeaks", unfollowed := true, recurses := true, apart := false, narrowed := true }
def CensusPeaksUptoSaid : Prop := censusPeaksUptoRow.holds Try.pinned (OpenSpec.upto censusPeaksSpec)

end Rows
end Go.Proofs.Ytfbacopjookplaa
