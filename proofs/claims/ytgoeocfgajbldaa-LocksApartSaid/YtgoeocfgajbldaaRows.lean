/-
  No cell of these rows narrows 'for every input' (looked for: loops, veiled, ifaces, maps, wideKeys, modest, calm, conditions, laid).
  DERIVED. THE GIVEN ROWS OF THIS SEAT. 4 by the template 'for every input the law returns true; each argument reads behind the call as it read before'; 0 by the template 'total and deterministic' (their statements: YtgoeocfgajbldaaTotals.lean).
  GIVEN WITH THE SEED: the statements are not yours to turn. If you find one false, say at which input.
  Laid BY PROGRAM, IN A SANDBOX (cutbox-rows.mjs): the forced cells as the released guide's own fill.sh prints them over the translation bf04ef6a8acd5ebe… (all of the seat's roots in one cut). By AI agents, Wed Nov 11 2026. No macro, syntax, notation, axiom, sorry.
-/
import Derived.Test.YtgoeocfgajbldaaChecked
import GoSem.Claim
import GoSem.ClaimJoined
import GoSem.ClaimMapViews
import Derived.JoinedTies
import Derived.KernelRfl
namespace Go.Proofs.Ytgoeocfgajbldaa
/- THE CELL 'sum', in the pinned program and in every row, IS THE sha256 OF THE DUMP (.gsa) THAT YtgoeocfgajbldaaProg.lean LOADS. Nothing in Lean hashes anything: it is a label: what it is worth is what the hold of that sum in a sandbox is worth. -/
noncomputable def Try.pinned : Pinned := { name := "ytgoeocfgajbldaa", sum := "bf04ef6a8acd5ebe809ddeb95079bc2bf72cf28e0d54702e7e13249a43bd7dca", checked := Try.checked }
namespace Rows
def none {H : Type} : Left H := { results := [], args := [] }

/-- 'palfreylaw17.LocksShare': WHATEVER THE INPUT: true; the input reads as it did. -/
def locksShareSpec : ChangeSpec := { name := "locksShare", fn := fun _ => fun
  | [d1, d2] => { results := [.lit (.bool true)], args := [d1, d2] }
  | _ => none }
def locksShareRow : OpenClaim := { program := "ytgoeocfgajbldaa", sum := "bf04ef6a8acd5ebe809ddeb95079bc2bf72cf28e0d54702e7e13249a43bd7dca", func := "palfrey/palfreylaw17.LocksShare", spec := "locksShare", unfollowed := true, recurses := true, apart := false }
def LocksShareSaid : Prop := locksShareRow.holds Try.pinned (OpenSpec.ofChange locksShareSpec)

/-- ITS FALSE NEIGHBOUR: 'it returns false'. Refute it at one input. -/
def locksShareWrong : ChangeSpec := { name := "locksShare", fn := fun _ => fun
  | [d1, d2] => { results := [.lit (.bool false)], args := [d1, d2] }
  | _ => none }
def LocksShareWrongFalsely : Prop := locksShareRow.holds Try.pinned (OpenSpec.ofChange locksShareWrong)

/-- 'palfreylaw17.LocksActs': WHATEVER THE INPUT: true; the input reads as it did. -/
def locksActsSpec : ChangeSpec := { name := "locksActs", fn := fun _ => fun
  | [d1, d2] => { results := [.lit (.bool true)], args := [d1, d2] }
  | _ => none }
def locksActsRow : OpenClaim := { program := "ytgoeocfgajbldaa", sum := "bf04ef6a8acd5ebe809ddeb95079bc2bf72cf28e0d54702e7e13249a43bd7dca", func := "palfrey/palfreylaw17.LocksActs", spec := "locksActs", unfollowed := true, recurses := true, apart := false }
def LocksActsSaid : Prop := locksActsRow.holds Try.pinned (OpenSpec.ofChange locksActsSpec)

/-- ITS FALSE NEIGHBOUR: 'it returns false'. Refute it at one input. -/
def locksActsWrong : ChangeSpec := { name := "locksActs", fn := fun _ => fun
  | [d1, d2] => { results := [.lit (.bool false)], args := [d1, d2] }
  | _ => none }
def LocksActsWrongFalsely : Prop := locksActsRow.holds Try.pinned (OpenSpec.ofChange locksActsWrong)

/-- 'palfreylaw17.LocksApart': WHATEVER THE INPUT: true; the input reads as it did. -/
def locksApartSpec : ChangeSpec := { name := "locksApart", fn := fun _ => fun
  | [d] => { results := [.lit (.bool true)], args := [d] }
  | _ => none }
def locksApartRow : OpenClaim := { program := "ytgoeocfgajbldaa", sum := "bf04ef6a8acd5ebe809ddeb95079bc2bf72cf28e0d54702e7e13249a43bd7dca", func := "palfrey/palfreylaw17.LocksApart", spec := "locksApart", unfollowed := true, recurses := true, apart := false }
def LocksApartSaid : Prop := locksApartRow.holds Try.pinned (OpenSpec.ofChange locksApartSpec)

/-- ITS FALSE NEIGHBOUR: 'it returns false'. Refute it at one input. -/
def locksApartWrong : ChangeSpec := { name := "locksApart", fn := fun _ => fun
  | [d] => { results := [.lit (.bool false)], args := [d] }
  | _ => none }
def LocksApartWrongFalsely : Prop := locksApartRow.holds Try.pinned (OpenSpec.ofChange locksApartWrong)

/-- 'palfreylaw17.LocksFree': WHATEVER THE INPUT: true; the input reads as it did. -/
def locksFreeSpec : ChangeSpec := { name := "locksFree", fn := fun _ => fun
  | [d1, d2] => { results := [.lit (.bool true)], args := [d1, d2] }
  | _ => none }
def locksFreeRow : OpenClaim := { program := "ytgoeocfgajbldaa", sum := "bf04ef6a8acd5ebe809ddeb95079bc2bf72cf28e0d54702e7e13249a43bd7dca", func := "palfrey/palfreylaw17.LocksFree", spec := "locksFree", unfollowed := true, recurses := true, apart := false }
def LocksFreeSaid : Prop := locksFreeRow.holds Try.pinned (OpenSpec.ofChange locksFreeSpec)

/-- ITS FALSE NEIGHBOUR: 'it returns false'. Refute it at one input. -/
def locksFreeWrong : ChangeSpec := { name := "locksFree", fn := fun _ => fun
  | [d1, d2] => { results := [.lit (.bool false)], args := [d1, d2] }
  | _ => none }
def LocksFreeWrongFalsely : Prop := locksFreeRow.holds Try.pinned (OpenSpec.ofChange locksFreeWrong)

/- THE SECOND FORM. 'bulk': how many values and letters a reading holds, each counted each time it is reached (what is shared counts as often as it is met; a slice's spare places count too). A statement '..UptoSaid' is the law's where the arguments, and the package variables that the reading takes, are together of bulk at most 1048576: NARROWER than '..Said'. Prove '..Said' where nothing that the law and all that it calls make is longer than what came in: it says more and counts as full. Else prove '..UptoSaid'. A law counts once. -/
mutual
def uptoBulk {H : Type} : DataW H → Nat
  | .lit (.string bytes) => bytes.length + 1
  | .lit _ => 1
  | .nil => 1
  | .ptr d => uptoBulk d + 1
  | .slice elems spare => uptoBulkAll elems + uptoBulkAll spare + 1
  | .agg parts => uptoBulkAll parts + 1
  | .iface _ d => uptoBulk d + 1
  | .map entries => uptoBulkEntries entries + 1
  | .held _ => 1
def uptoBulkAll {H : Type} : List (DataW H) → Nat
  | [] => 0
  | d :: r => uptoBulk d + uptoBulkAll r
def uptoBulkEntries {H : Type} : List (Lit × DataW H) → Nat
  | [] => 0
  | x :: r => uptoBulkEntry x + uptoBulkEntries r
def uptoBulkEntry {H : Type} : Lit × DataW H → Nat
  | (.string bytes, d) => bytes.length + uptoBulk d + 1
  | (_, d) => uptoBulk d + 1
 end
def uptoSmall : (H : Type) → List (DataW H) → Bool := fun _ ds => decide (uptoBulkAll ds ≤ 1048576)
def OpenSpec.upto (s : _root_.Go.ChangeSpec) : _root_.Go.OpenSpec := { _root_.Go.OpenSpec.ofChange s with cond := some uptoSmall }

/-- 'palfreylaw17.LocksShare', WHERE WHAT IT READS IS OF BULK AT MOST 1048576: true; the input reads as it did. -/
def locksShareUptoRow : OpenClaim := { program := "ytgoeocfgajbldaa", sum := "bf04ef6a8acd5ebe809ddeb95079bc2bf72cf28e0d54702e7e13249a43bd7dca", func := "palfrey/palfreylaw17.LocksShare", spec := "locksShare", unfollowed := true, recurses := true, apart := false, narrowed := true }
def LocksShareUptoSaid : Prop := locksShareUptoRow.holds Try.pinned (OpenSpec.upto locksShareSpec)

/-- 'palfreylaw17.LocksActs', WHERE WHAT IT READS IS OF BULK AT MOST 1048576: true; the input reads as it did. -/
def locksActsUptoRow : OpenClaim := { program := "ytgoeocfgajbldaa", sum := "bf04ef6a8acd5ebe809ddeb95079bc2bf72cf28e0d54702e7e13249a43bd7dca", func := "palfrey/palfreylaw17.LocksActs", spec := "locksActs", unfollowed := true, recurses := true, apart := false, narrowed := true }
def LocksActsUptoSaid : Prop := locksActsUptoRow.holds Try.pinned (OpenSpec.upto locksActsSpec)

/-- 'palfreylaw17.LocksApart', WHERE WHAT IT READS IS OF BULK AT MOST 1048576: true; the input reads as it did. -/
def locksApartUptoRow : OpenClaim := { program := "ytgoeocfgajbldaa", sum := "bf04ef6a8acd5ebe809ddeb95079bc2bf72cf28e0d54702e7e13249a43bd7dca", func := "palfrey/palfreylaw17.LocksApart", spec := "locksApart", unfollowed := true, recurses := true, apart := false, narrowed := true }
def LocksApartUptoSaid : Prop := locksApartUptoRow.holds Try.pinned (OpenSpec.upto locksApartSpec)

/-- 'palfreylaw17.LocksFree', WHERE WHAT IT READS IS OF BULK AT MOST 1048576: true; the input reads as it did. -/
def locksFreeUptoRow : OpenClaim := { program := "ytgoeocfgajbldaa", sum := "bf04ef6a8acd5ebe809ddeb95079bc2bf72cf28e0d54702e7e13249a43bd7dca", func := "palfrey/palfreylaw17.LocksFree", spec := "locksFree", unfollowed := true, recurses := true, apart := false, narrowed := true }
def LocksFreeUptoSaid : Prop := locksFreeUptoRow.holds Try.pinned (OpenSpec.upto locksFreeSpec)

end Rows
end Go.Proofs.Ytgoeocfgajbldaa
