/-
  No cell of these rows narrows 'for every input' (looked for: loops, veiled, ifaces, maps, wideKeys, modest, calm, conditions, laid).
  DERIVED. THE GIVEN ROWS OF THIS SEAT. 4 by the template 'for every input the law returns true; each argument reads behind the call as it read before'; 0 by the template 'total and deterministic' (their statements: YtgbhnihkgmpocaaGreatTotals.lean).
  GIVEN WITH THE SEED: the statements are not yours to turn. If you find one false, say at which input.
  Laid BY PROGRAM, IN A SANDBOX (cutbox-rows.mjs): the forced cells as the released guide's own fill.sh prints them over the translation 72936346b156a561… (all of the seat's roots in one cut). By AI agents, Wed Nov 11 2026. No macro, syntax, notation, axiom, sorry.
-/
import Derived.Test.YtgbhnihkgmpocaaGreatChecked
import GoSem.Claim
import GoSem.ClaimJoined
import GoSem.ClaimMapViews
import Derived.JoinedTies
import Derived.KernelRfl
namespace Go.Proofs.YtgbhnihkgmpocaaGreat
/- THE CELL 'sum', in the pinned program and in every row, IS THE sha256 OF THE DUMP (.gsa) THAT YtgbhnihkgmpocaaGreatProg.lean LOADS. Nothing in Lean hashes anything: it is a label: what it is worth is what the hold of that sum in a sandbox is worth. -/
noncomputable def Tryz.pinned : Pinned := { name := "ytgbhnihkgmpocaagreat", sum := "72936346b156a561cae0cc813b0fa5e68a944e43e86a60da6d66f4904e906e0a", checked := Tryz.checked }
namespace Rows
def none {H : Type} : Left H := { results := [], args := [] }

/-- 'reclaimlaw10.PoolNews': WHATEVER THE INPUT: true; the input reads as it did. -/
def poolNewsSpec : ChangeSpec := { name := "poolNews", fn := fun _ => fun
  | [d1, d2, d3] => { results := [.lit (.bool true)], args := [d1, d2, d3] }
  | _ => none }
def poolNewsRow : OpenClaim := { program := "ytgbhnihkgmpocaagreat", sum := "72936346b156a561cae0cc813b0fa5e68a944e43e86a60da6d66f4904e906e0a", func := "reclaim/reclaimlaw10.PoolNews", spec := "poolNews", unfollowed := true, recurses := true, apart := false }
def PoolNewsSaid : Prop := poolNewsRow.holds Tryz.pinned (OpenSpec.ofChange poolNewsSpec)

/-- ITS FALSE NEIGHBOUR: 'it returns false'. Refute it at one input. -/
def poolNewsWrong : ChangeSpec := { name := "poolNews", fn := fun _ => fun
  | [d1, d2, d3] => { results := [.lit (.bool false)], args := [d1, d2, d3] }
  | _ => none }
def PoolNewsWrongFalsely : Prop := poolNewsRow.holds Tryz.pinned (OpenSpec.ofChange poolNewsWrong)

/-- 'reclaimlaw10.PoolPlays': WHATEVER THE INPUT: true; the input reads as it did. -/
def poolPlaysSpec : ChangeSpec := { name := "poolPlays", fn := fun _ => fun
  | [d1, d2] => { results := [.lit (.bool true)], args := [d1, d2] }
  | _ => none }
def poolPlaysRow : OpenClaim := { program := "ytgbhnihkgmpocaagreat", sum := "72936346b156a561cae0cc813b0fa5e68a944e43e86a60da6d66f4904e906e0a", func := "reclaim/reclaimlaw10.PoolPlays", spec := "poolPlays", unfollowed := true, recurses := true, apart := false }
def PoolPlaysSaid : Prop := poolPlaysRow.holds Tryz.pinned (OpenSpec.ofChange poolPlaysSpec)

/-- ITS FALSE NEIGHBOUR: 'it returns false'. Refute it at one input. -/
def poolPlaysWrong : ChangeSpec := { name := "poolPlays", fn := fun _ => fun
  | [d1, d2] => { results := [.lit (.bool false)], args := [d1, d2] }
  | _ => none }
def PoolPlaysWrongFalsely : Prop := poolPlaysRow.holds Tryz.pinned (OpenSpec.ofChange poolPlaysWrong)

/-- 'reclaimlaw14.ScheduleAlones': WHATEVER THE INPUT: true; the input reads as it did. -/
def scheduleAlonesSpec : ChangeSpec := { name := "scheduleAlones", fn := fun _ => fun
  | [d1, d2, d3, d4] => { results := [.lit (.bool true)], args := [d1, d2, d3, d4] }
  | _ => none }
def scheduleAlonesRow : OpenClaim := { program := "ytgbhnihkgmpocaagreat", sum := "72936346b156a561cae0cc813b0fa5e68a944e43e86a60da6d66f4904e906e0a", func := "reclaim/reclaimlaw14.ScheduleAlones", spec := "scheduleAlones", unfollowed := true, recurses := true, apart := false }
def ScheduleAlonesSaid : Prop := scheduleAlonesRow.holds Tryz.pinned (OpenSpec.ofChange scheduleAlonesSpec)

/-- ITS FALSE NEIGHBOUR: 'it returns false'. Refute it at one input. -/
def scheduleAlonesWrong : ChangeSpec := { name := "scheduleAlones", fn := fun _ => fun
  | [d1, d2, d3, d4] => { results := [.lit (.bool false)], args := [d1, d2, d3, d4] }
  | _ => none }
def ScheduleAlonesWrongFalsely : Prop := scheduleAlonesRow.holds Tryz.pinned (OpenSpec.ofChange scheduleAlonesWrong)

/-- 'reclaimlaw14.ScheduleDrives': WHATEVER THE INPUT: true; the input reads as it did. -/
def scheduleDrivesSpec : ChangeSpec := { name := "scheduleDrives", fn := fun _ => fun
  | [d1, d2, d3] => { results := [.lit (.bool true)], args := [d1, d2, d3] }
  | _ => none }
def scheduleDrivesRow : OpenClaim := { program := "ytgbhnihkgmpocaagreat", sum := "72936346b156a561cae0cc813b0fa5e68a944e43e86a60da6d66f4904e906e0a", func := "reclaim/reclaimlaw14.ScheduleDrives", spec := "scheduleDrives", unfollowed := true, recurses := true, apart := false }
def ScheduleDrivesSaid : Prop := scheduleDrivesRow.holds Tryz.pinned (OpenSpec.ofChange scheduleDrivesSpec)

/-- ITS FALSE NEIGHBOUR: 'it returns false'. Refute it at one input. -/
def scheduleDrivesWrong : ChangeSpec := { name := "scheduleDrives", fn := fun _ => fun
  | [d1, d2, d3] => { results := [.lit (.bool false)], args := [d1, d2, d3] }
  | _ => none }
def ScheduleDrivesWrongFalsely : Prop := scheduleDrivesRow.holds Tryz.pinned (OpenSpec.ofChange scheduleDrivesWrong)

/- THE SECOND FORM. 'bulk': how many values and letters a reading holds, each counted each time it is reached (what is shared counts as often as it is met; a slice's spare places count too). A statement '..UptoSaid' is the law's where the arguments, and the package variables that the reading takes, are together of bulk at most 1048576: NARROWER than '..Said'. Prove '..Said' where nothing that the law and all that it calls make is longer than what came in: it says more and counts as full. Else prove '..UptoSaid'. A law counts once. -/
mutual
def uptoBulk {H : Type} : DataW H → Nat
  | .lit (.string bytes) => bytes.length + 1
  | .lit _ => 1
  | .nil => 1
  | .ptr d => uptoBulk d + 1
  | .slice elems spare => uptoBulkAll elems + uptoBulkAll spare + 1
  | .agg parts => uptoBulkAll parts + 1
  | .iface _ d => uptoBulk d + 1
  | .map entries => uptoBulkEntries entries + 1
  | .held _ => 1
def uptoBulkAll {H : Type} : List (DataW H) → Nat
  | [] => 0
  | d :: r => uptoBulk d + uptoBulkAll r
def uptoBulkEntries {H : Type} : List (Lit × DataW H) → Nat
  | [] => 0
  | x :: r => uptoBulkEntry x + uptoBulkEntries r
def uptoBulkEntry {H : Type} : Lit × DataW H → Nat
  | (.string bytes, d) => bytes.length + uptoBulk d + 1
  | (_, d) => uptoBulk d + 1
 end
def uptoSmall : (H : Type) → List (DataW H) → Bool := fun _ ds => decide (uptoBulkAll ds ≤ 1048576)
def OpenSpec.upto (s : _root_.Go.ChangeSpec) : _root_.Go.OpenSpec := { _root_.Go.OpenSpec.ofChange s with cond := some uptoSmall }

/-- 'reclaimlaw10.PoolNews', WHERE WHAT IT READS IS OF BULK AT MOST 1048576: true; the input reads as it did. -/
def poolNewsUptoRow : OpenClaim := { program := "ytgbhnihkgmpocaagreat", sum := "72936346b156a561cae0cc813b0fa5e68a944e43e86a60da6d66f4904e906e0a", func := "reclaim/reclaimlaw10.PoolNews", spec := "poolNews", unfollowed := true, recurses := true, apart := false, narrowed := true }
def PoolNewsUptoSaid : Prop := poolNewsUptoRow.holds Tryz.pinned (OpenSpec.upto poolNewsSpec)

/-- 'reclaimlaw10.PoolPlays', WHERE WHAT IT READS IS OF BULK AT MOST 1048576: true; the input reads as it did. -/
def poolPlaysUptoRow : OpenClaim := { program := "ytgbhnihkgmpocaagreat", sum := "72936346b156a561cae0cc813b0fa5e68a944e43e86a60da6d66f4904e906e0a", func := "reclaim/reclaimlaw10.PoolPlays", spec := "poolPlays", unfollowed := true, recurses := true, apart := false, narrowed := true }
def PoolPlaysUptoSaid : Prop := poolPlaysUptoRow.holds Tryz.pinned (OpenSpec.upto poolPlaysSpec)

/-- 'reclaimlaw14.ScheduleAlones', WHERE WHAT IT READS IS OF BULK AT MOST 1048576: true; the input reads as it did. -/
def scheduleAlonesUptoRow : OpenClaim := { program := "ytgbhnihkgmpocaagreat", sum := "72936346b156a561cae0cc813b0fa5e68a944e43e86a60da6d66f4904e906e0a", func := "reclaim/reclaimlaw14.ScheduleAlones", spec := "scheduleAlones", unfollowed := true, recurses := true, apart := false, narrowed := true }
def ScheduleAlonesUptoSaid : Prop := scheduleAlonesUptoRow.holds Tryz.pinned (OpenSpec.upto scheduleAlonesSpec)

/-- 'reclaimlaw14.ScheduleDrives', WHERE WHAT IT READS IS OF BULK AT MOST 1048576: true; the input reads as it did. -/
def scheduleDrivesUptoRow : OpenClaim := { program := "ytgbhnihkgmpocaagreat", sum := "72936346b156a561cae0cc813b0fa5e68a944e43e86a60da6d66f4904e906e0a", func := "reclaim/reclaimlaw14.ScheduleDrives", spec := "scheduleDrives", unfollowed := true, recurses := true, apart := false, narrowed := true }
def ScheduleDrivesUptoSaid : Prop := scheduleDrivesUptoRow.holds Tryz.pinned (OpenSpec.upto scheduleDrivesSpec)

end Rows
end Go.Proofs.YtgbhnihkgmpocaaGreat
