/-
  No cell of these rows narrows 'for every input' (looked for: loops, veiled, ifaces, maps, wideKeys, modest, calm, conditions, laid).
  DERIVED. THE GIVEN ROWS OF THIS SEAT. 4 by the template 'for every input the law returns true; each argument reads behind the call as it read before'; 0 by the template 'total and deterministic' (their statements: YtjemlenjencbkaaTotals.lean).
  GIVEN WITH THE SEED: the statements are not yours to turn. If you find one false, say at which input.
  Laid BY PROGRAM, IN A SANDBOX (cutbox-rows.mjs): the forced cells as the released guide's own fill.sh prints them over the translation df936fce032f04f7… (all of the seat's roots in one cut). By AI agents, Wed Nov 11 2026. No macro, syntax, notation, axiom, sorry.
-/
import Derived.Test.YtjemlenjencbkaaChecked
import GoSem.Claim
import GoSem.ClaimJoined
import GoSem.ClaimMapViews
import Derived.JoinedTies
import Derived.KernelRfl
namespace Go.Proofs.Ytjemlenjencbkaa
/- THE CELL 'sum', in the pinned program and in every row, IS THE sha256 OF THE DUMP (.gsa) THAT YtjemlenjencbkaaProg.lean LOADS. Nothing in Lean hashes anything: it is a label: what it is worth is what the hold of that sum in a sandbox is worth. -/
noncomputable def Try.pinned : Pinned := { name := "ytjemlenjencbkaa", sum := "df936fce032f04f78cbcb60cb567a956f07c9eebc87c635b00cb19278f9ea25a", checked := Try.checked }
namespace Rows
def none {H : Type} : Left H := { results := [], args := [] }

/-- 'reclaimlaw14.ScheduleRounds': WHATEVER THE INPUT: true; the input reads as it did. -/
def scheduleRoundsSpec : ChangeSpec := { name := "scheduleRounds", fn := fun _ => fun
  | [d1, d2] => { results := [.lit (.bool true)], args := [d1, d2] }
  | _ => none }
def scheduleRoundsRow : OpenClaim := { program := "ytjemlenjencbkaa", sum := "df936fce032f04f78cbcb60cb567a956f07c9eebc87c635b00cb19278f9ea25a", func := "reclaim/reclaimlaw14.ScheduleRounds", spec := "scheduleRounds", apart := false }
def ScheduleRoundsSaid : Prop := scheduleRoundsRow.holds Try.pinned (OpenSpec.ofChange scheduleRoundsSpec)

/-- ITS FALSE NEIGHBOUR: 'it returns false'. Refute it at one input. -/
def scheduleRoundsWrong : ChangeSpec := { name := "scheduleRounds", fn := fun _ => fun
  | [d1, d2] => { results := [.lit (.bool false)], args := [d1, d2] }
  | _ => none }
def ScheduleRoundsWrongFalsely : Prop := scheduleRoundsRow.holds Try.pinned (OpenSpec.ofChange scheduleRoundsWrong)

/-- 'reclaimlaw14.ScheduleSeeds': WHATEVER THE INPUT: true; the input reads as it did. -/
def scheduleSeedsSpec : ChangeSpec := { name := "scheduleSeeds", fn := fun _ => fun
  | [d1, d2, d3] => { results := [.lit (.bool true)], args := [d1, d2, d3] }
  | _ => none }
def scheduleSeedsRow : OpenClaim := { program := "ytjemlenjencbkaa", sum := "df936fce032f04f78cbcb60cb567a956f07c9eebc87c635b00cb19278f9ea25a", func := "reclaim/reclaimlaw14.ScheduleSeeds", spec := "scheduleSeeds", apart := false }
def ScheduleSeedsSaid : Prop := scheduleSeedsRow.holds Try.pinned (OpenSpec.ofChange scheduleSeedsSpec)

/-- ITS FALSE NEIGHBOUR: 'it returns false'. Refute it at one input. -/
def scheduleSeedsWrong : ChangeSpec := { name := "scheduleSeeds", fn := fun _ => fun
  | [d1, d2, d3] => { results := [.lit (.bool false)], args := [d1, d2, d3] }
  | _ => none }
def ScheduleSeedsWrongFalsely : Prop := scheduleSeedsRow.holds Try.pinned (OpenSpec.ofChange scheduleSeedsWrong)

/-- 'reclaimlaw14.ScheduleHeaps': WHATEVER THE INPUT: true; the input reads as it did. -/
def scheduleHeapsSpec : ChangeSpec := { name := "scheduleHeaps", fn := fun _ => fun
  | [d1, d2] => { results := [.lit (.bool true)], args := [d1, d2] }
  | _ => none }
def scheduleHeapsRow : OpenClaim := { program := "ytjemlenjencbkaa", sum := "df936fce032f04f78cbcb60cb567a956f07c9eebc87c635b00cb19278f9ea25a", func := "reclaim/reclaimlaw14.ScheduleHeaps", spec := "scheduleHeaps", apart := false }
def ScheduleHeapsSaid : Prop := scheduleHeapsRow.holds Try.pinned (OpenSpec.ofChange scheduleHeapsSpec)

/-- ITS FALSE NEIGHBOUR: 'it returns false'. Refute it at one input. -/
def scheduleHeapsWrong : ChangeSpec := { name := "scheduleHeaps", fn := fun _ => fun
  | [d1, d2] => { results := [.lit (.bool false)], args := [d1, d2] }
  | _ => none }
def ScheduleHeapsWrongFalsely : Prop := scheduleHeapsRow.holds Try.pinned (OpenSpec.ofChange scheduleHeapsWrong)

/-- 'reclaimlaw14.ScheduleNil': WHATEVER THE INPUT: true; the input reads as it did. -/
def scheduleNilSpec : ChangeSpec := { name := "scheduleNil", fn := fun _ => fun
  | [d1, d2, d3] => { results := [.lit (.bool true)], args := [d1, d2, d3] }
  | _ => none }
def scheduleNilRow : OpenClaim := { program := "ytjemlenjencbkaa", sum := "df936fce032f04f78cbcb60cb567a956f07c9eebc87c635b00cb19278f9ea25a", func := "reclaim/reclaimlaw14.ScheduleNil", spec := "scheduleNil", apart := false }
def ScheduleNilSaid : Prop := scheduleNilRow.holds Try.pinned (OpenSpec.ofChange scheduleNilSpec)

/-- ITS FALSE NEIGHBOUR: 'it returns false'. Refute it at one input. -/
def scheduleNilWrong : ChangeSpec := { name := "scheduleNil", fn := fun _ => fun
  | [d1, d2, d3] => { results := [.lit (.bool false)], args := [d1, d2, d3] }
  | _ => none }
def ScheduleNilWrongFalsely : Prop := scheduleNilRow.holds Try.pinned (OpenSpec.ofChange scheduleNilWrong)

/- THE SECOND FORM. 'bulk': how many values and letters a reading holds, each counted each time it is reached (what is shared counts as often as it is met; a slice's spare places count too). A statement '..UptoSaid' is the law's where the arguments, and the package variables that the reading takes, are together of bulk at most 1048576: NARROWER than '..Said'. Prove '..Said' where nothing that the law and all that it calls make is longer than what came in: it says more and counts as full. Else prove '..UptoSaid'. A law counts once. -/
mutual
def uptoBulk {H : Type} : DataW H → Nat
  | .lit (.string bytes) => bytes.length + 1
  | .lit _ => 1
  | .nil => 1
  | .ptr d => uptoBulk d + 1
  | .slice elems spare => uptoBulkAll elems + uptoBulkAll spare + 1
  | .agg parts => uptoBulkAll parts + 1
  | .iface _ d => uptoBulk d + 1
  | .map entries => uptoBulkEntries entries + 1
  | .held _ => 1
def uptoBulkAll {H : Type} : List (DataW H) → Nat
  | [] => 0
  | d :: r => uptoBulk d + uptoBulkAll r
def uptoBulkEntries {H : Type} : List (Lit × DataW H) → Nat
  | [] => 0
  | x :: r => uptoBulkEntry x + uptoBulkEntries r
def uptoBulkEntry {H : Type} : Lit × DataW H → Nat
  | (.string bytes, d) => bytes.length + uptoBulk d + 1
  | (_, d) => uptoBulk d + 1
 end
def uptoSmall : (H : Type) → List (DataW H) → Bool := fun _ ds => decide (uptoBulkAll ds ≤ 1048576)
def OpenSpec.upto (s : _root_.Go.ChangeSpec) : _root_.Go.OpenSpec := { _root_.Go.OpenSpec.ofChange s with cond := some uptoSmall }

/-- 'reclaimlaw14.ScheduleRounds', WHERE WHAT IT READS IS OF BULK AT MOST 1048576: true; the input reads as it did. -/
def scheduleRoundsUptoRow : OpenClaim := { program := "ytjemlenjencbkaa", sum := "df936fce032f04f78cbcb60cb567a956f07c9eebc87c635b00cb19278f9ea25a", func := "reclaim/reclaimlaw14.ScheduleRounds", spec := "scheduleRounds", apart := false, narrowed := true }
def ScheduleRoundsUptoSaid : Prop := scheduleRoundsUptoRow.holds Try.pinned (OpenSpec.upto scheduleRoundsSpec)

/-- 'reclaimlaw14.ScheduleSeeds', WHERE WHAT IT READS IS OF BULK AT MOST 1048576: true; the input reads as it did. -/
def scheduleSeedsUptoRow : OpenClaim := { program := "ytjemlenjencbkaa", sum := "df936fce032f04f78cbcb60cb567a956f07c9eebc87c635b00cb19278f9ea25a", func := "reclaim/reclaimlaw14.ScheduleSeeds", spec := "scheduleSeeds", apart := false, narrowed := true }
def ScheduleSeedsUptoSaid : Prop := scheduleSeedsUptoRow.holds Try.pinned (OpenSpec.upto scheduleSeedsSpec)

/-- 'reclaimlaw14.ScheduleHeaps', WHERE WHAT IT READS IS OF BULK AT MOST 1048576: true; the input reads as it did. -/
def scheduleHeapsUptoRow : OpenClaim := { program := "ytjemlenjencbkaa", sum := "df936fce032f04f78cbcb60cb567a956f07c9eebc87c635b00cb19278f9ea25a", func := "reclaim/reclaimlaw14.ScheduleHeaps", spec := "scheduleHeaps", apart := false, narrowed := true }
def ScheduleHeapsUptoSaid : Prop := scheduleHeapsUptoRow.holds Try.pinned (OpenSpec.upto scheduleHeapsSpec)

/-- 'reclaimlaw14.ScheduleNil', WHERE WHAT IT READS IS OF BULK AT MOST 1048576: true; the input reads as it did. -/
def scheduleNilUptoRow : OpenClaim := { program := "ytjemlenjencbkaa", sum := "df936fce032f04f78cbcb60cb567a956f07c9eebc87c635b00cb19278f9ea25a", func := "reclaim/reclaimlaw14.ScheduleNil", spec := "scheduleNil", apart := false, narrowed := true }
def ScheduleNilUptoSaid : Prop := scheduleNilUptoRow.holds Try.pinned (OpenSpec.upto scheduleNilSpec)

end Rows
end Go.Proofs.Ytjemlenjencbkaa
