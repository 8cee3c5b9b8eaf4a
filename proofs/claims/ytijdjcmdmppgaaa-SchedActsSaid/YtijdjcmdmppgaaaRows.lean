/-
  No cell of these rows narrows 'for every input' (looked for: loops, veiled, ifaces, maps, wideKeys, modest, calm, conditions, laid).
  DERIVED. THE GIVEN ROWS OF THIS SEAT. 5 by the template 'for every input the law returns true; each argument reads behind the call as it read before'; 0 by the template 'total and deterministic' (their statements: YtijdjcmdmppgaaaTotals.lean).
  GIVEN WITH THE SEED: the statements are not yours to turn. If you find one false, say at which input.
  Laid BY PROGRAM, IN A SANDBOX (cutbox-rows.mjs): the forced cells as the released guide's own fill.sh prints them over the translation 0233fdd5f9636294… (all of the seat's roots in one cut). By AI agents, Wed Nov 11 2026. No macro, syntax, notation, axiom, sorry.
-/
import Derived.Test.YtijdjcmdmppgaaaChecked
import GoSem.Claim
import GoSem.ClaimJoined
import GoSem.ClaimMapViews
import Derived.JoinedTies
import Derived.KernelRfl
namespace Go.Proofs.Ytijdjcmdmppgaaa
/- THE CELL 'sum', in the pinned program and in every row, IS THE sha256 OF THE DUMP (.gsa) THAT YtijdjcmdmppgaaaProg.lean LOADS. Nothing in Lean hashes anything: it is a label: what it is worth is what the hold of that sum in a sandbox is worth. -/
noncomputable def Try.pinned : Pinned := { name := "ytijdjcmdmppgaaa", sum := "0233fdd5f963629469082aef4718056db7beb5f4448497527c7a7392fbb8170a", checked := Try.checked }
namespace Rows
def none {H : Type} : Left H := { results := [], args := [] }

/-- 'palfreylaw20.SchedBlind': WHATEVER THE INPUT: true; the input reads as it did. -/
def schedBlindSpec : ChangeSpec := { name := "schedBlind", fn := fun _ => fun
  | [d1, d2] => { results := [.lit (.bool true)], args := [d1, d2] }
  | _ => none }
def schedBlindRow : OpenClaim := { program := "ytijdjcmdmppgaaa", sum := "0233fdd5f963629469082aef4718056db7beb5f4448497527c7a7392fbb8170a", func := "palfrey/palfreylaw20.SchedBlind", spec := "schedBlind", unfollowed := true, recurses := true, apart := false }
def SchedBlindSaid : Prop := schedBlindRow.holds Try.pinned (OpenSpec.ofChange schedBlindSpec)

/-- ITS FALSE NEIGHBOUR: 'it returns false'. Refute it at one input. -/
def schedBlindWrong : ChangeSpec := { name := "schedBlind", fn := fun _ => fun
  | [d1, d2] => { results := [.lit (.bool false)], args := [d1, d2] }
  | _ => none }
def SchedBlindWrongFalsely : Prop := schedBlindRow.holds Try.pinned (OpenSpec.ofChange schedBlindWrong)

/-- 'palfreylaw20.SchedBound': WHATEVER THE INPUT: true; the input reads as it did. -/
def schedBoundSpec : ChangeSpec := { name := "schedBound", fn := fun _ => fun
  | [d] => { results := [.lit (.bool true)], args := [d] }
  | _ => none }
def schedBoundRow : OpenClaim := { program := "ytijdjcmdmppgaaa", sum := "0233fdd5f963629469082aef4718056db7beb5f4448497527c7a7392fbb8170a", func := "palfrey/palfreylaw20.SchedBound", spec := "schedBound", unfollowed := true, recurses := true, apart := false }
def SchedBoundSaid : Prop := schedBoundRow.holds Try.pinned (OpenSpec.ofChange schedBoundSpec)

/-- ITS FALSE NEIGHBOUR: 'it returns false'. Refute it at one input. -/
def schedBoundWrong : ChangeSpec := { name := "schedBound", fn := fun _ => fun
  | [d] => { results := [.lit (.bool false)], args := [d] }
  | _ => none }
def SchedBoundWrongFalsely : Prop := schedBoundRow.holds Try.pinned (OpenSpec.ofChange schedBoundWrong)

/-- 'palfreylaw20.SchedAlone': WHATEVER THE INPUT: true; the input reads as it did. -/
def schedAloneSpec : ChangeSpec := { name := "schedAlone", fn := fun _ => fun
  | [d1, d2] => { results := [.lit (.bool true)], args := [d1, d2] }
  | _ => none }
def schedAloneRow : OpenClaim := { program := "ytijdjcmdmppgaaa", sum := "0233fdd5f963629469082aef4718056db7beb5f4448497527c7a7392fbb8170a", func := "palfrey/palfreylaw20.SchedAlone", spec := "schedAlone", unfollowed := true, recurses := true, apart := false }
def SchedAloneSaid : Prop := schedAloneRow.holds Try.pinned (OpenSpec.ofChange schedAloneSpec)

/-- ITS FALSE NEIGHBOUR: 'it returns false'. Refute it at one input. -/
def schedAloneWrong : ChangeSpec := { name := "schedAlone", fn := fun _ => fun
  | [d1, d2] => { results := [.lit (.bool false)], args := [d1, d2] }
  | _ => none }
def SchedAloneWrongFalsely : Prop := schedAloneRow.holds Try.pinned (OpenSpec.ofChange schedAloneWrong)

/-- 'palfreylaw20.SchedBatch': WHATEVER THE INPUT: true; the input reads as it did. -/
def schedBatchSpec : ChangeSpec := { name := "schedBatch", fn := fun _ => fun
  | [d] => { results := [.lit (.bool true)], args := [d] }
  | _ => none }
def schedBatchRow : OpenClaim := { program := "ytijdjcmdmppgaaa", sum := "0233fdd5f963629469082aef4718056db7beb5f4448497527c7a7392fbb8170a", func := "palfrey/palfreylaw20.SchedBatch", spec := "schedBatch", unfollowed := true, recurses := true, apart := false }
def SchedBatchSaid : Prop := schedBatchRow.holds Try.pinned (OpenSpec.ofChange schedBatchSpec)

/-- ITS FALSE NEIGHBOUR: 'it returns false'. Refute it at one input. -/
def schedBatchWrong : ChangeSpec := { name := "schedBatch", fn := fun _ => fun
  | [d] => { results := [.lit (.bool false)], args := [d] }
  | _ => none }
def SchedBatchWrongFalsely : Prop := schedBatchRow.holds Try.pinned (OpenSpec.ofChange schedBatchWrong)

/-- 'palfreylaw20.SchedActs': WHATEVER THE INPUT: true; the input reads as it did. -/
def schedActsSpec : ChangeSpec := { name := "schedActs", fn := fun _ => fun
  | [d] => { results := [.lit (.bool true)], args := [d] }
  | _ => none }
def schedActsRow : OpenClaim := { program := "ytijdjcmdmppgaaa", sum := "0233fdd5f963629469082aef4718056db7beb5f4448497527c7a7392fbb8170a", func := "palfrey/palfreylaw20.SchedActs", spec := "schedActs", unfollowed := true, recurses := true, apart := false }
def SchedActsSaid : Prop := schedActsRow.holds Try.pinned (OpenSpec.ofChange schedActsSpec)

/-- ITS FALSE NEIGHBOUR: 'it returns false'. Refute it at one input. -/
def schedActsWrong : ChangeSpec := { name := "schedActs", fn := fun _ => fun
  | [d] => { results := [.lit (.bool false)], args := [d] }
  | _ => none }
def SchedActsWrongFalsely : Prop := schedActsRow.holds Try.pinned (OpenSpec.ofChange schedActsWrong)

/- THE SECOND FORM. 'bulk': how many values and letters a reading holds, each counted each time it is reached (what is shared counts as often as it is met; a slice's spare places count too). A statement '..UptoSaid' is the law's where the arguments, and the package variables that the reading takes, are together of bulk at most 1048576: NARROWER than '..Said'. Prove '..Said' where nothing that the law and all that it calls make is longer than what came in: it says more and counts as full. Else prove '..UptoSaid'. A law counts once. -/
mutual
def uptoBulk {H : Type} : DataW H → Nat
  | .lit (.string bytes) => bytes.length + 1
  | .lit _ => 1
  | .nil => 1
  | .ptr d => uptoBulk d + 1
  | .slice elems spare => uptoBulkAll elems + uptoBulkAll spare + 1
  | .agg parts => uptoBulkAll parts + 1
  | .iface _ d => uptoBulk d + 1
  | .map entries => uptoBulkEntries entries + 1
  | .held _ => 1
def uptoBulkAll {H : Type} : List (DataW H) → Nat
  | [] => 0
  | d :: r => uptoBulk d + uptoBulkAll r
def uptoBulkEntries {H : Type} : List (Lit × DataW H) → Nat
  | [] => 0
  | x :: r => uptoBulkEntry x + uptoBulkEntries r
def uptoBulkEntry {H : Type} : Lit × DataW H → Nat
  | (.string bytes, d) => bytes.length + uptoBulk d + 1
  | (_, d) => uptoBulk d + 1
 end
def uptoSmall : (H : Type) → List (DataW H) → Bool := fun _ ds => decide (uptoBulkAll ds ≤ 1048576)
def OpenSpec.upto (s : _root_.Go.ChangeSpec) : _root_.Go.OpenSpec := { _root_.Go.OpenSpec.ofChange s with cond := some uptoSmall }

/-- 'palfreylaw20.SchedBlind', WHERE WHAT IT READS IS OF BULK AT MOST 1048576: true; the input reads as it did. -/
def schedBlindUptoRow : OpenClaim := { program := "ytijdjcmdmppgaaa", sum := "0233fdd5f963629469082aef4718056db7beb5f4448497527c7a7392fbb8170a", func := "palfrey/palfreylaw20.SchedBlind", spec := "schedBlind", unfollowed := true, recurses := true, apart := false, narrowed := true }
def SchedBlindUptoSaid : Prop := schedBlindUptoRow.holds Try.pinned (OpenSpec.upto schedBlindSpec)

/-- 'palfreylaw20.SchedBound', WHERE WHAT IT READS IS OF BULK AT MOST 1048576: true; the input reads as it did. -/
def schedBoundUptoRow : OpenClaim := { program := "ytijdjcmdmppgaaa", sum := "0233fdd5f963629469082aef4718056db7beb5f4448497527c7a7392fbb8170a", func := "palfrey/palfreylaw20.SchedBound", spec := "schedBound", unfollowed := true, recurses := true, apart := false, narrowed := true }
def SchedBoundUptoSaid : Prop := schedBoundUptoRow.holds Try.pinned (OpenSpec.upto schedBoundSpec)

/-- 'palfreylaw20.SchedAlone', WHERE WHAT IT READS IS OF BULK AT MOST 1048576: true; the input reads as it did. -/
def schedAloneUptoRow : OpenClaim := { program := "ytijdjcmdmppgaaa", sum := "0233fdd5f963629469082aef4718056db7beb5f4448497527c7a7392fbb8170a", func := "palfrey/palfreylaw20.SchedAlone", spec := "schedAlone", unfollowed := true, recurses := true, apart := false, narrowed := true }
def SchedAloneUptoSaid : Prop := schedAloneUptoRow.holds Try.pinned (OpenSpec.upto schedAloneSpec)

/-- 'palfreylaw20.SchedBatch', WHERE WHAT IT READS IS OF BULK AT MOST 1048576: true; the input reads as it did. -/
def schedBatchUptoRow : OpenClaim := { program := "ytijdjcmdmppgaaa", sum := "0233fdd5f963629469082aef4718056db7beb5f4448497527c7a7392fbb8170a", func := "palfrey/palfreylaw20.SchedBatch", spec := "schedBatch", unfollowed := true, recurses := true, apart := false, narrowed := true }
def SchedBatchUptoSaid : Prop := schedBatchUptoRow.holds Try.pinned (OpenSpec.upto schedBatchSpec)

/-- 'palfreylaw20.SchedActs', WHERE WHAT IT READS IS OF BULK AT MOST 1048576: true; the input reads as it did. -/
def schedActsUptoRow : OpenClaim := { program := "ytijdjcmdmppgaaa", sum := "0233fdd5f963629469082aef4718056db7beb5f4448497527c7a7392fbb8170a", func := "palfrey/palfreylaw20.SchedActs", spec := "schedActs", unfollowed := true, recurses := true, apart := false, narrowed := true }
def SchedActsUptoSaid : Prop := schedActsUptoRow.holds Try.pinned (OpenSpec.upto schedActsSpec)

end Rows
end Go.Proofs.Ytijdjcmdmppgaaa
