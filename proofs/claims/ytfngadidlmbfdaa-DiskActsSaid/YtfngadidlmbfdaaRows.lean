/-
  No cell of these rows narrows 'for every input' (looked for: loops, veiled, ifaces, maps, wideKeys, modest, calm, conditions, laid).
  DERIVED. THE GIVEN ROWS OF THIS SEAT. 13 by the template 'for every input the law returns true; each argument reads behind the call as it read before'; 0 by the template 'total and deterministic' (their statements: YtfngadidlmbfdaaTotals.lean).
  GIVEN WITH THE SEED: the statements are not yours to turn. If you find one false, say at which input.
  Laid BY PROGRAM, IN A SANDBOX (cutbox-rows.mjs): the forced cells as the released guide's own fill.sh prints them over the translation 99c45e0392269932… (all of the seat's roots in one cut). By AI agents, Wed Nov 11 2026. No macro, syntax, notation, axiom, sorry.
-/
import Derived.Test.YtfngadidlmbfdaaChecked
import GoSem.Claim
import GoSem.ClaimJoined
import GoSem.ClaimMapViews
import Derived.JoinedTies
import Derived.KernelRfl
namespace Go.Proofs.Ytfngadidlmbfdaa
/- THE CELL 'sum', in the pinned program and in every row, IS THE sha256 OF THE DUMP (.gsa) THAT YtfngadidlmbfdaaProg.lean LOADS. Nothing in Lean hashes anything: it is a label: what it is worth is what the hold of that sum in a sandbox is worth. -/
noncomputable def Try.pinned : Pinned := { name := "ytfngadidlmbfdaa", sum := "99c45e0392269932fd2d9ec350383c97458bf8cd7f3eeb9d2f463a9c018bd4fa", checked := Try.checked }
namespace Rows
def none {H : Type} : Left H := { results := [], args := [] }

/-- 'aukletlaw22.NodeMerges': WHATEVER THE INPUT: true; the input reads as it did. -/
def nodeMergesSpec : ChangeSpec := { name := "nodeMerges", fn := fun _ => fun
  | [d1, d2, d3] => { results := [.lit (.bool true)], args := [d1, d2, d3] }
  | _ => none }
def nodeMergesRow : OpenClaim := { program := "ytfngadidlmbfdaa", sum := "99c45e0392269932fd2d9ec350383c97458bf8cd7f3eeb9d2f463a9c018bd4fa", func := "auklet/aukletlaw22.NodeMerges", spec := "nodeMerges", unfollowed := true, recurses := true, apart := false }
def NodeMergesSaid : Prop := nodeMergesRow.holds Try.pinned (OpenSpec.ofChange nodeMergesSpec)

/-- ITS FALSE NEIGHBOUR: 'it returns false'. Refute it at one input. -/
def nodeMergesWrong : ChangeSpec := { name := "nodeMerges", fn := fun _ => fun
  | [d1, d2, d3] => { results := [.lit (.bool false)], args := [d1, d2, d3] }
  | _ => none }
def NodeMergesWrongFalsely : Prop := nodeMergesRow.holds Try.pinned (OpenSpec.ofChange nodeMergesWrong)

/-- 'aukletlaw19.DiskActs': WHATEVER THE INPUT: true; the input reads as it did. -/
def diskActsSpec : ChangeSpec := { name := "diskActs", fn := fun _ => fun
  | [d1, d2, d3] => { results := [.lit (.bool true)], args := [d1, d2, d3] }
  | _ => none }
def diskActsRow : OpenClaim := { program := "ytfngadidlmbfdaa", sum := "99c45e0392269932fd2d9ec350383c97458bf8cd7f3eeb9d2f463a9c018bd4fa", func := "auklet/aukletlaw19.DiskActs", spec := "diskActs", unfollowed := true, recurses := true, apart := false }
def DiskActsSaid : Prop := diskActsRow.holds Try.pinned (OpenSpec.ofChange diskActsSpec)

/-- ITS FALSE NEIGHBOUR: 'it returns false'. Refute it at one input. -/
def diskActsWrong : ChangeSpec := { name := "diskActs", fn := fun _ => fun
  | [d1, d2, d3] => { results := [.lit (.bool false)], args := [d1, d2, d3] }
  | _ => none }
def DiskActsWrongFalsely : Prop := diskActsRow.holds Try.pinned (OpenSpec.ofChange diskActsWrong)

/-- 'aukletlaw20.WalRecords': WHATEVER THE INPUT: true; the input reads as it did. -/
def walRecordsSpec : ChangeSpec := { name := "walRecords", fn := fun _ => fun
  | [d1, d2, d3] => { results := [.lit (.bool true)], args := [d1, d2, d3] }
  | _ => none }
def walRecordsRow : OpenClaim := { program := "ytfngadidlmbfdaa", sum := "99c45e0392269932fd2d9ec350383c97458bf8cd7f3eeb9d2f463a9c018bd4fa", func := "auklet/aukletlaw20.WalRecords", spec := "walRecords", unfollowed := true, recurses := true, apart := false }
def WalRecordsSaid : Prop := walRecordsRow.holds Try.pinned (OpenSpec.ofChange walRecordsSpec)

/-- ITS FALSE NEIGHBOUR: 'it returns false'. Refute it at one input. -/
def walRecordsWrong : ChangeSpec := { name := "walRecords", fn := fun _ => fun
  | [d1, d2, d3] => { results := [.lit (.bool false)], args := [d1, d2, d3] }
  | _ => none }
def WalRecordsWrongFalsely : Prop := walRecordsRow.holds Try.pinned (OpenSpec.ofChange walRecordsWrong)

/-- 'aukletlaw20.WalWhole': WHATEVER THE INPUT: true; the input reads as it did. -/
def walWholeSpec : ChangeSpec := { name := "walWhole", fn := fun _ => fun
  | [d1, d2] => { results := [.lit (.bool true)], args := [d1, d2] }
  | _ => none }
def walWholeRow : OpenClaim := { program := "ytfngadidlmbfdaa", sum := "99c45e0392269932fd2d9ec350383c97458bf8cd7f3eeb9d2f463a9c018bd4fa", func := "auklet/aukletlaw20.WalWhole", spec := "walWhole", unfollowed := true, recurses := true, apart := false }
def WalWholeSaid : Prop := walWholeRow.holds Try.pinned (OpenSpec.ofChange walWholeSpec)

/-- ITS FALSE NEIGHBOUR: 'it returns false'. Refute it at one input. -/
def walWholeWrong : ChangeSpec := { name := "walWhole", fn := fun _ => fun
  | [d1, d2] => { results := [.lit (.bool false)], args := [d1, d2] }
  | _ => none }
def WalWholeWrongFalsely : Prop := walWholeRow.holds Try.pinned (OpenSpec.ofChange walWholeWrong)

/-- 'aukletlaw20.WalSeqs': WHATEVER THE INPUT: true; the input reads as it did. -/
def walSeqsSpec : ChangeSpec := { name := "walSeqs", fn := fun _ => fun
  | [d] => { results := [.lit (.bool true)], args := [d] }
  | _ => none }
def walSeqsRow : OpenClaim := { program := "ytfngadidlmbfdaa", sum := "99c45e0392269932fd2d9ec350383c97458bf8cd7f3eeb9d2f463a9c018bd4fa", func := "auklet/aukletlaw20.WalSeqs", spec := "walSeqs", unfollowed := true, recurses := true, apart := false }
def WalSeqsSaid : Prop := walSeqsRow.holds Try.pinned (OpenSpec.ofChange walSeqsSpec)

/-- ITS FALSE NEIGHBOUR: 'it returns false'. Refute it at one input. -/
def walSeqsWrong : ChangeSpec := { name := "walSeqs", fn := fun _ => fun
  | [d] => { results := [.lit (.bool false)], args := [d] }
  | _ => none }
def WalSeqsWrongFalsely : Prop := walSeqsRow.holds Try.pinned (OpenSpec.ofChange walSeqsWrong)

/-- 'aukletlaw20.WalRefuses': WHATEVER THE INPUT: true; the input reads as it did. -/
def walRefusesSpec : ChangeSpec := { name := "walRefuses", fn := fun _ => fun
  | [d1, d2, d3] => { results := [.lit (.bool true)], args := [d1, d2, d3] }
  | _ => none }
def walRefusesRow : OpenClaim := { program := "ytfngadidlmbfdaa", sum := "99c45e0392269932fd2d9ec350383c97458bf8cd7f3eeb9d2f463a9c018bd4fa", func := "auklet/aukletlaw20.WalRefuses", spec := "walRefuses", unfollowed := true, recurses := true, apart := false }
def WalRefusesSaid : Prop := walRefusesRow.holds Try.pinned (OpenSpec.ofChange walRefusesSpec)

/-- ITS FALSE NEIGHBOUR: 'it returns false'. Refute it at one input. -/
def walRefusesWrong : ChangeSpec := { name := "walRefuses", fn := fun _ => fun
  | [d1, d2, d3] => { results := [.lit (.bool false)], args := [d1, d2, d3] }
  | _ => none }
def WalRefusesWrongFalsely : Prop := walRefusesRow.holds Try.pinned (OpenSpec.ofChange walRefusesWrong)

/-- 'aukletlaw20.WalAny': WHATEVER THE INPUT: true; the input reads as it did. -/
def walAnySpec : ChangeSpec := { name := "walAny", fn := fun _ => fun
  | [d1, d2] => { results := [.lit (.bool true)], args := [d1, d2] }
  | _ => none }
def walAnyRow : OpenClaim := { program := "ytfngadidlmbfdaa", sum := "99c45e0392269932fd2d9ec350383c97458bf8cd7f3eeb9d2f463a9c018bd4fa", func := "auklet/aukletlaw20.WalAny", spec := "walAny", unfollowed := true, recurses := true, apart := false }
def WalAnySaid : Prop := walAnyRow.holds Try.pinned (OpenSpec.ofChange walAnySpec)

/-- ITS FALSE NEIGHBOUR: 'it returns false'. Refute it at one input. -/
def walAnyWrong : ChangeSpec := { name := "walAny", fn := fun _ => fun
  | [d1, d2] => { results := [.lit (.bool false)], args := [d1, d2] }
  | _ => none }
def WalAnyWrongFalsely : Prop := walAnyRow.holds Try.pinned (OpenSpec.ofChange walAnyWrong)

/-- 'aukletlaw20.WalActs': WHATEVER THE INPUT: true; the input reads as it did. -/
def walActsSpec : ChangeSpec := { name := "walActs", fn := fun _ => fun
  | [d] => { results := [.lit (.bool true)], args := [d] }
  | _ => none }
def walActsRow : OpenClaim := { program := "ytfngadidlmbfdaa", sum := "99c45e0392269932fd2d9ec350383c97458bf8cd7f3eeb9d2f463a9c018bd4fa", func := "auklet/aukletlaw20.WalActs", spec := "walActs", unfollowed := true, recurses := true, apart := false }
def WalActsSaid : Prop := walActsRow.holds Try.pinned (OpenSpec.ofChange walActsSpec)

/-- ITS FALSE NEIGHBOUR: 'it returns false'. Refute it at one input. -/
def walActsWrong : ChangeSpec := { name := "walActs", fn := fun _ => fun
  | [d] => { results := [.lit (.bool false)], args := [d] }
  | _ => none }
def WalActsWrongFalsely : Prop := walActsRow.holds Try.pinned (OpenSpec.ofChange walActsWrong)

/-- 'aukletlaw21.PagerAny': WHATEVER THE INPUT: true; the input reads as it did. -/
def pagerAnySpec : ChangeSpec := { name := "pagerAny", fn := fun _ => fun
  | [d1, d2] => { results := [.lit (.bool true)], args := [d1, d2] }
  | _ => none }
def pagerAnyRow : OpenClaim := { program := "ytfngadidlmbfdaa", sum := "99c45e0392269932fd2d9ec350383c97458bf8cd7f3eeb9d2f463a9c018bd4fa", func := "auklet/aukletlaw21.PagerAny", spec := "pagerAny", unfollowed := true, recurses := true, apart := false }
def PagerAnySaid : Prop := pagerAnyRow.holds Try.pinned (OpenSpec.ofChange pagerAnySpec)

/-- ITS FALSE NEIGHBOUR: 'it returns false'. Refute it at one input. -/
def pagerAnyWrong : ChangeSpec := { name := "pagerAny", fn := fun _ => fun
  | [d1, d2] => { results := [.lit (.bool false)], args := [d1, d2] }
  | _ => none }
def PagerAnyWrongFalsely : Prop := pagerAnyRow.holds Try.pinned (OpenSpec.ofChange pagerAnyWrong)

/-- 'aukletlaw21.PagerOnce': WHATEVER THE INPUT: true; the input reads as it did. -/
def pagerOnceSpec : ChangeSpec := { name := "pagerOnce", fn := fun _ => fun
  | [d] => { results := [.lit (.bool true)], args := [d] }
  | _ => none }
def pagerOnceRow : OpenClaim := { program := "ytfngadidlmbfdaa", sum := "99c45e0392269932fd2d9ec350383c97458bf8cd7f3eeb9d2f463a9c018bd4fa", func := "auklet/aukletlaw21.PagerOnce", spec := "pagerOnce", unfollowed := true, recurses := true, apart := false }
def PagerOnceSaid : Prop := pagerOnceRow.holds Try.pinned (OpenSpec.ofChange pagerOnceSpec)

/-- ITS FALSE NEIGHBOUR: 'it returns false'. Refute it at one input. -/
def pagerOnceWrong : ChangeSpec := { name := "pagerOnce", fn := fun _ => fun
  | [d] => { results := [.lit (.bool false)], args := [d] }
  | _ => none }
def PagerOnceWrongFalsely : Prop := pagerOnceRow.holds Try.pinned (OpenSpec.ofChange pagerOnceWrong)

/-- 'aukletlaw21.PagerPool': WHATEVER THE INPUT: true; the input reads as it did. -/
def pagerPoolSpec : ChangeSpec := { name := "pagerPool", fn := fun _ => fun
  | [d1, d2] => { results := [.lit (.bool true)], args := [d1, d2] }
  | _ => none }
def pagerPoolRow : OpenClaim := { program := "ytfngadidlmbfdaa", sum := "99c45e0392269932fd2d9ec350383c97458bf8cd7f3eeb9d2f463a9c018bd4fa", func := "auklet/aukletlaw21.PagerPool", spec := "pagerPool", unfollowed := true, recurses := true, apart := false }
def PagerPoolSaid : Prop := pagerPoolRow.holds Try.pinned (OpenSpec.ofChange pagerPoolSpec)

/-- ITS FALSE NEIGHBOUR: 'it returns false'. Refute it at one input. -/
def pagerPoolWrong : ChangeSpec := { name := "pagerPool", fn := fun _ => fun
  | [d1, d2] => { results := [.lit (.bool false)], args := [d1, d2] }
  | _ => none }
def PagerPoolWrongFalsely : Prop := pagerPoolRow.holds Try.pinned (OpenSpec.ofChange pagerPoolWrong)

/-- 'aukletlaw21.PagerActs': WHATEVER THE INPUT: true; the input reads as it did. -/
def pagerActsSpec : ChangeSpec := { name := "pagerActs", fn := fun _ => fun
  | [d1, d2] => { results := [.lit (.bool true)], args := [d1, d2] }
  | _ => none }
def pagerActsRow : OpenClaim := { program := "ytfngadidlmbfdaa", sum := "99c45e0392269932fd2d9ec350383c97458bf8cd7f3eeb9d2f463a9c018bd4fa", func := "auklet/aukletlaw21.PagerActs", spec := "pagerActs", unfollowed := true, recurses := true, apart := false }
def PagerActsSaid : Prop := pagerActsRow.holds Try.pinned (OpenSpec.ofChange pagerActsSpec)

/-- ITS FALSE NEIGHBOUR: 'it returns false'. Refute it at one input. -/
def pagerActsWrong : ChangeSpec := { name := "pagerActs", fn := fun _ => fun
  | [d1, d2] => { results := [.lit (.bool false)], args := [d1, d2] }
  | _ => none }
def PagerActsWrongFalsely : Prop := pagerActsRow.holds Try.pinned (OpenSpec.ofChange pagerActsWrong)

/-- 'aukletlaw21.PagerWhole': WHATEVER THE INPUT: true; the input reads as it did. -/
def pagerWholeSpec : ChangeSpec := { name := "pagerWhole", fn := fun _ => fun
  | [d1, d2] => { results := [.lit (.bool true)], args := [d1, d2] }
  | _ => none }
def pagerWholeRow : OpenClaim := { program := "ytfngadidlmbfdaa", sum := "99c45e0392269932fd2d9ec350383c97458bf8cd7f3eeb9d2f463a9c018bd4fa", func := "auklet/aukletlaw21.PagerWhole", spec := "pagerWhole", unfollowed := true, recurses := true, apart := false }
def PagerWholeSaid : Prop := pagerWholeRow.holds Try.pinned (OpenSpec.ofChange pagerWholeSpec)

/-- ITS FALSE NEIGHBOUR: 'it returns false'. Refute it at one input. -/
def pagerWholeWrong : ChangeSpec := { name := "pagerWhole", fn := fun _ => fun
  | [d1, d2] => { results := [.lit (.bool false)], args := [d1, d2] }
  | _ => none }
def PagerWholeWrongFalsely : Prop := pagerWholeRow.holds Try.pinned (OpenSpec.ofChange pagerWholeWrong)

/- THE SECOND FORM. 'bulk': how many values and letters a reading holds, each counted each time it is reached (what is shared counts as often as it is met; a slice's spare places count too). A statement '..UptoSaid' is the law's where the arguments, and the package variables that the reading takes, are together of bulk at most 1048576: NARROWER than '..Said'. Prove '..Said' where nothing that the law and all that it calls make is longer than what came in: it says more and counts as full. Else prove '..UptoSaid'. A law counts once. -/
mutual
def uptoBulk {H : Type} : DataW H → Nat
  | .lit (.string bytes) => bytes.length + 1
  | .lit _ => 1
  | .nil => 1
  | .ptr d => uptoBulk d + 1
  | .slice elems spare => uptoBulkAll elems + uptoBulkAll spare + 1
  | .agg parts => uptoBulkAll parts + 1
  | .iface _ d => uptoBulk d + 1
  | .map entries => uptoBulkEntries entries + 1
  | .held _ => 1
def uptoBulkAll {H : Type} : List (DataW H) → Nat
  | [] => 0
  | d :: r => uptoBulk d + uptoBulkAll r
def uptoBulkEntries {H : Type} : List (Lit × DataW H) → Nat
  | [] => 0
  | x :: r => uptoBulkEntry x + uptoBulkEntries r
def uptoBulkEntry {H : Type} : Lit × DataW H → Nat
  | (.string bytes, d) => bytes.length + uptoBulk d + 1
  | (_, d) => uptoBulk d + 1
 end
def uptoSmall : (H : Type) → List (DataW H) → Bool := fun _ ds => decide (uptoBulkAll ds ≤ 1048576)
def OpenSpec.upto (s : _root_.Go.ChangeSpec) : _root_.Go.OpenSpec := { _root_.Go.OpenSpec.ofChange s with cond := some uptoSmall }

/-- 'aukletlaw22.NodeMerges', WHERE WHAT IT READS IS OF BULK AT MOST 1048576: true; the input reads as it did. -/
def nodeMergesUptoRow : OpenClaim := { program := "ytfngadidlmbfdaa", sum := "99c45e0392269932fd2d9ec350383c97458bf8cd7f3eeb9d2f463a9c018bd4fa", func := "auklet/aukletlaw22.NodeMerges", spec := "nodeMerges", unfollowed := true, recurses := true, apart := false, narrowed := true }
def NodeMergesUptoSaid : Prop := nodeMergesUptoRow.holds Try.pinned (OpenSpec.upto nodeMergesSpec)

/-- 'aukletlaw19.DiskActs', WHERE WHAT IT READS IS OF BULK AT MOST 1048576: true; the input reads as it did. -/
def diskActsUptoRow : OpenClaim := { program := "ytfngadidlmbfdaa", sum := "99c45e0392269932fd2d9ec350383c97458bf8cd7f3eeb9d2f463a9c018bd4fa", func := "auklet/aukletlaw19.DiskActs", spec := "diskActs", unfollowed := true, recurses := true, apart := false, narrowed := true }
def DiskActsUptoSaid : Prop := diskActsUptoRow.holds Try.pinned (OpenSpec.upto diskActsSpec)

/-- 'aukletlaw20.WalRecords', WHERE WHAT IT READS IS OF BULK AT MOST 1048576: true; the input reads as it did. -/
def walRecordsUptoRow : OpenClaim := { program := "ytfngadidlmbfdaa", sum := "99c45e0392269932fd2d9ec350383c97458bf8cd7f3eeb9d2f463a9c018bd4fa", func := "auklet/aukletlaw20.WalRecords", spec := "walRecords", unfollowed := true, recurses := true, apart := false, narrowed := true }
def WalRecordsUptoSaid : Prop := walRecordsUptoRow.holds Try.pinned (OpenSpec.upto walRecordsSpec)

/-- 'aukletlaw20.WalWhole', WHERE WHAT IT READS IS OF BULK AT MOST 1048576: true; the input reads as it did. -/
def walWholeUptoRow : OpenClaim := { program := "ytfngadidlmbfdaa", sum := "99c45e0392269932fd2d9ec350383c97458bf8cd7f3eeb9d2f463a9c018bd4fa", func := "auklet/aukletlaw20.WalWhole", spec := "walWhole", unfollowed := true, recurses := true, apart := false, narrowed := true }
def WalWholeUptoSaid : Prop := walWholeUptoRow.holds Try.pinned (OpenSpec.upto walWholeSpec)

/-- 'aukletlaw20.WalSeqs', WHERE WHAT IT READS IS OF BULK AT MOST 1048576: true; the input reads as it did. -/
def walSeqsUptoRow : OpenClaim := { program := "ytfngadidlmbfdaa", sum := "99c45e0392269932fd2d9ec350383c97458bf8cd7f3eeb9d2f463a9c018bd4fa", func := "auklet/aukletlaw20.WalSeqs", spec := "walSeqs", unfollowed := true, recurses := true, apart := false, narrowed := true }
def WalSeqsUptoSaid : Prop := walSeqsUptoRow.holds Try.pinned (OpenSpec.upto walSeqsSpec)

/-- 'aukletlaw20.WalRefuses', WHERE WHAT IT READS IS OF BULK AT MOST 1048576: true; the input reads as it did. -/
def walRefusesUptoRow : OpenClaim := { program := "ytfngadidlmbfdaa", sum := "99c45e0392269932fd2d9ec350383c97458bf8cd7f3eeb9d2f463a9c018bd4fa", func := "auklet/aukletlaw20.WalRefuses", spec := "walRefuses", unfollowed := true, recurses := true, apart := false, narrowed := true }
def WalRefusesUptoSaid : Prop := walRefusesUptoRow.holds Try.pinned (OpenSpec.upto walRefusesSpec)

/-- 'aukletlaw20.WalAny', WHERE WHAT IT READS IS OF BULK AT MOST 1048576: true; the input reads as it did. -/
def walAnyUptoRow : OpenClaim := { program := "ytfngadidlmbfdaa", sum := "99c45e0392269932fd2d9ec350383c97458bf8cd7f3eeb9d2f463a9c018bd4fa", func := "auklet/aukletlaw20.WalAny", spec := "walAny", unfollowed := true, recurses := true, apart := false, narrowed := true }
def WalAnyUptoSaid : Prop := walAnyUptoRow.holds Try.pinned (OpenSpec.upto walAnySpec)

/-- 'aukletlaw20.WalActs', WHERE WHAT IT READS IS OF BULK AT MOST 1048576: true; the input reads as it did. -/
def walActsUptoRow : OpenClaim := { program := "ytfngadidlmbfdaa", sum := "99c45e0392269932fd2d9ec350383c97458bf8cd7f3eeb9d2f463a9c018bd4fa", func := "auklet/aukletlaw20.WalActs", spec := "walActs", unfollowed := true, recurses := true, apart := false, narrowed := true }
def WalActsUptoSaid : Prop := walActsUptoRow.holds Try.pinned (OpenSpec.upto walActsSpec)

/-- 'aukletlaw21.PagerAny', WHERE WHAT IT READS IS OF BULK AT MOST 1048576: true; the input reads as it did. -/
def pagerAnyUptoRow : OpenClaim := { program := "ytfngadidlmbfdaa", sum := "99c45e0392269932fd2d9ec350383c97458bf8cd7f3eeb9d2f463a9c018bd4fa", func := "auklet/aukletlaw21.PagerAny", spec := "pagerAny", unfollowed := true, recurses := true, apart := false, narrowed := true }
def PagerAnyUptoSaid : Prop := pagerAnyUptoRow.holds Try.pinned (OpenSpec.upto pagerAnySpec)

/-- 'aukletlaw21.PagerOnce', WHERE WHAT IT READS IS OF BULK AT MOST 1048576: true; the input reads as it did. -/
def pagerOnceUptoRow : OpenClaim := { program := "ytfngadidlmbfdaa", sum := "99c45e0392269932fd2d9ec350383c97458bf8cd7f3eeb9d2f463a9c018bd4fa", func := "auklet/aukletlaw21.PagerOnce", spec := "pagerOnce", unfollowed := true, recurses := true, apart := false, narrowed := true }
def PagerOnceUptoSaid : Prop := pagerOnceUptoRow.holds Try.pinned (OpenSpec.upto pagerOnceSpec)

/-- 'aukletlaw21.PagerPool', WHERE WHAT IT READS IS OF BULK AT MOST 1048576: true; the input reads as it did. -/
def pagerPoolUptoRow : OpenClaim := { program := "ytfngadidlmbfdaa", sum := "99c45e0392269932fd2d9ec350383c97458bf8cd7f3eeb9d2f463a9c018bd4fa", func := "auklet/aukletlaw21.PagerPool", spec := "pagerPool", unfollowed := true, recurses := true, apart := false, narrowed := true }
def PagerPoolUptoSaid : Prop := pagerPoolUptoRow.holds Try.pinned (OpenSpec.upto pagerPoolSpec)

/-- 'aukletlaw21.PagerActs', WHERE WHAT IT READS IS OF BULK AT MOST 1048576: true; the input reads as it did. -/
def pagerActsUptoRow : OpenClaim := { program := "ytfngadidlmbfdaa", sum := "99c45e0392269932fd2d9ec350383c97458bf8cd7f3eeb9d2f463a9c018bd4fa", func := "auklet/aukletlaw21.PagerActs", spec := "pagerActs", unfollowed := true, recurses := true, apart := false, narrowed := true }
def PagerActsUptoSaid : Prop := pagerActsUptoRow.holds Try.pinned (OpenSpec.upto pagerActsSpec)

/-- 'aukletlaw21.PagerWhole', WHERE WHAT IT READS IS OF BULK AT MOST 1048576: true; the input reads as it did. -/
def pagerWholeUptoRow : OpenClaim := { program := "ytfngadidlmbfdaa", sum := "99c45e0392269932fd2d9ec350383c97458bf8cd7f3eeb9d2f463a9c018bd4fa", func := "auklet/aukletlaw21.PagerWhole", spec := "pagerWhole", unfollowed := true, recurses := true, apart := false, narrowed := true }
def PagerWholeUptoSaid : Prop := pagerWholeUptoRow.holds Try.pinned (OpenSpec.upto pagerWholeSpec)

end Rows
end Go.Proofs.Ytfngadidlmbfdaa
