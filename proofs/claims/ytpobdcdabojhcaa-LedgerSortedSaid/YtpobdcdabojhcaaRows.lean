/-
  No cell of these rows narrows 'for every input' (looked for: loops, veiled, ifaces, maps, wideKeys, modest, calm, conditions, laid).
  DERIVED. THE GIVEN ROWS OF THIS SEAT. 6 by the template 'for every input the law returns true; each argument reads behind the call as it read before'; 0 by the template 'total and deterministic' (their statements: YtpobdcdabojhcaaTotals.lean).
  GIVEN WITH THE SEED: the statements are not yours to turn. If you find one false, say at which input.
  Laid BY PROGRAM, IN A SANDBOX (cutbox-rows.mjs): the forced cells as the released guide's own fill.sh prints them over the translation b1075f7701fb84d0… (all of the seat's roots in one cut). By AI agents, Wed Nov 11 2026. No macro, syntax, notation, axiom, sorry.
-/
import Derived.Test.YtpobdcdabojhcaaChecked
import GoSem.Claim
import GoSem.ClaimJoined
import GoSem.ClaimMapViews
import Derived.JoinedTies
import Derived.KernelRfl
namespace Go.Proofs.Ytpobdcdabojhcaa
/- THE CELL 'sum', in the pinned program and in every row, IS THE sha256 OF THE DUMP (.gsa) THAT YtpobdcdabojhcaaProg.lean LOADS. Nothing in Lean hashes anything: it is a label: what it is worth is what the hold of that sum in a sandbox is worth. -/
noncomputable def Try.pinned : Pinned := { name := "ytpobdcdabojhcaa", sum := "b1075f7701fb84d0830025d3494984938d12f38247c50da8f2bfd9bbb606739a", checked := Try.checked }
namespace Rows
def none {H : Type} : Left H := { results := [], args := [] }

/-- 'tidemarklaw11.LedgerFirst': WHATEVER THE INPUT: true; the input reads as it did. -/
def ledgerFirstSpec : ChangeSpec := { name := "ledgerFirst", fn := fun _ => fun
  | [d] => { results := [.lit (.bool true)], args := [d] }
  | _ => none }
def ledgerFirstRow : OpenClaim := { program := "ytpobdcdabojhcaa", sum := "b1075f7701fb84d0830025d3494984938d12f38247c50da8f2bfd9bbb606739a", func := "tidemark/tidemarklaw11.LedgerFirst", spec := "ledgerFirst", plainKeys := false, apart := false }
def LedgerFirstSaid : Prop := ledgerFirstRow.holds Try.pinned (OpenSpec.ofChange ledgerFirstSpec)

/-- ITS FALSE NEIGHBOUR: 'it returns false'. Refute it at one input. -/
def ledgerFirstWrong : ChangeSpec := { name := "ledgerFirst", fn := fun _ => fun
  | [d] => { results := [.lit (.bool false)], args := [d] }
  | _ => none }
def LedgerFirstWrongFalsely : Prop := ledgerFirstRow.holds Try.pinned (OpenSpec.ofChange ledgerFirstWrong)

/-- 'tidemarklaw11.LedgerAgree': WHATEVER THE INPUT: true; the input reads as it did. -/
def ledgerAgreeSpec : ChangeSpec := { name := "ledgerAgree", fn := fun _ => fun
  | [d] => { results := [.lit (.bool true)], args := [d] }
  | _ => none }
def ledgerAgreeRow : OpenClaim := { program := "ytpobdcdabojhcaa", sum := "b1075f7701fb84d0830025d3494984938d12f38247c50da8f2bfd9bbb606739a", func := "tidemark/tidemarklaw11.LedgerAgree", spec := "ledgerAgree", unfollowed := true, recurses := true, plainKeys := false, apart := false }
def LedgerAgreeSaid : Prop := ledgerAgreeRow.holds Try.pinned (OpenSpec.ofChange ledgerAgreeSpec)

/-- ITS FALSE NEIGHBOUR: 'it returns false'. Refute it at one input. -/
def ledgerAgreeWrong : ChangeSpec := { name := "ledgerAgree", fn := fun _ => fun
  | [d] => { results := [.lit (.bool false)], args := [d] }
  | _ => none }
def LedgerAgreeWrongFalsely : Prop := ledgerAgreeRow.holds Try.pinned (OpenSpec.ofChange ledgerAgreeWrong)

/-- 'tidemarklaw11.LedgerLists': WHATEVER THE INPUT: true; the input reads as it did. -/
def ledgerListsSpec : ChangeSpec := { name := "ledgerLists", fn := fun _ => fun
  | [d] => { results := [.lit (.bool true)], args := [d] }
  | _ => none }
def ledgerListsRow : OpenClaim := { program := "ytpobdcdabojhcaa", sum := "b1075f7701fb84d0830025d3494984938d12f38247c50da8f2bfd9bbb606739a", func := "tidemark/tidemarklaw11.LedgerLists", spec := "ledgerLists", unfollowed := true, recurses := true, plainKeys := false, apart := false }
def LedgerListsSaid : Prop := ledgerListsRow.holds Try.pinned (OpenSpec.ofChange ledgerListsSpec)

/-- ITS FALSE NEIGHBOUR: 'it returns false'. Refute it at one input. -/
def ledgerListsWrong : ChangeSpec := { name := "ledgerLists", fn := fun _ => fun
  | [d] => { results := [.lit (.bool false)], args := [d] }
  | _ => none }
def LedgerListsWrongFalsely : Prop := ledgerListsRow.holds Try.pinned (OpenSpec.ofChange ledgerListsWrong)

/-- 'tidemarklaw11.LedgerSorted': WHATEVER THE INPUT: true; the input reads as it did. -/
def ledgerSortedSpec : ChangeSpec := { name := "ledgerSorted", fn := fun _ => fun
  | [d] => { results := [.lit (.bool true)], args := [d] }
  | _ => none }
def ledgerSortedRow : OpenClaim := { program := "ytpobdcdabojhcaa", sum := "b1075f7701fb84d0830025d3494984938d12f38247c50da8f2bfd9bbb606739a", func := "tidemark/tidemarklaw11.LedgerSorted", spec := "ledgerSorted", unfollowed := true, recurses := true, plainKeys := false, apart := false }
def LedgerSortedSaid : Prop := ledgerSortedRow.holds Try.pinned (OpenSpec.ofChange ledgerSortedSpec)

/-- ITS FALSE NEIGHBOUR: 'it returns false'. Refute it at one input. -/
def ledgerSortedWrong : ChangeSpec := { name := "ledgerSorted", fn := fun _ => fun
  | [d] => { results := [.lit (.bool false)], args := [d] }
  | _ => none }
def LedgerSortedWrongFalsely : Prop := ledgerSortedRow.holds Try.pinned (OpenSpec.ofChange ledgerSortedWrong)

/-- 'tidemarklaw11.LedgerPlays': WHATEVER THE INPUT: true; the input reads as it did. -/
def ledgerPlaysSpec : ChangeSpec := { name := "ledgerPlays", fn := fun _ => fun
  | [d] => { results := [.lit (.bool true)], args := [d] }
  | _ => none }
def ledgerPlaysRow : OpenClaim := { program := "ytpobdcdabojhcaa", sum := "b1075f7701fb84d0830025d3494984938d12f38247c50da8f2bfd9bbb606739a", func := "tidemark/tidemarklaw11.LedgerPlays", spec := "ledgerPlays", unfollowed := true, recurses := true, plainKeys := false, apart := false }
def LedgerPlaysSaid : Prop := ledgerPlaysRow.holds Try.pinned (OpenSpec.ofChange ledgerPlaysSpec)

/-- ITS FALSE NEIGHBOUR: 'it returns false'. Refute it at one input. -/
def ledgerPlaysWrong : ChangeSpec := { name := "ledgerPlays", fn := fun _ => fun
  | [d] => { results := [.lit (.bool false)], args := [d] }
  | _ => none }
def LedgerPlaysWrongFalsely : Prop := ledgerPlaysRow.holds Try.pinned (OpenSpec.ofChange ledgerPlaysWrong)

/-- 'tidemarklaw11.LedgerDiffers': WHATEVER THE INPUT: true; the input reads as it did. -/
def ledgerDiffersSpec : ChangeSpec := { name := "ledgerDiffers", fn := fun _ => fun
  | [d] => { results := [.lit (.bool true)], args := [d] }
  | _ => none }
def ledgerDiffersRow : OpenClaim := { program := "ytpobdcdabojhcaa", sum := "b1075f7701fb84d0830025d3494984938d12f38247c50da8f2bfd9bbb606739a", func := "tidemark/tidemarklaw11.LedgerDiffers", spec := "ledgerDiffers", unfollowed := true, recurses := true, plainKeys := false, apart := false }
def LedgerDiffersSaid : Prop := ledgerDiffersRow.holds Try.pinned (OpenSpec.ofChange ledgerDiffersSpec)

/-- ITS FALSE NEIGHBOUR: 'it returns false'. Refute it at one input. -/
def ledgerDiffersWrong : ChangeSpec := { name := "ledgerDiffers", fn := fun _ => fun
  | [d] => { results := [.lit (.bool false)], args := [d] }
  | _ => none }
def LedgerDiffersWrongFalsely : Prop := ledgerDiffersRow.holds Try.pinned (OpenSpec.ofChange ledgerDiffersWrong)

/- THE SECOND FORM. 'bulk': how many values and letters a reading holds, each counted each time it is reached (what is shared counts as often as it is met; a slice's spare places count too). A statement '..UptoSaid' is the law's where the arguments, and the package variables that the reading takes, are together of bulk at most 1048576: NARROWER than '..Said'. Prove '..Said' where nothing that the law and all that it calls make is longer than what came in: it says more and counts as full. Else prove '..UptoSaid'. A law counts once. -/
mutual
def uptoBulk {H : Type} : DataW H → Nat
  | .lit (.string bytes) => bytes.length + 1
  | .lit _ => 1
  | .nil => 1
  | .ptr d => uptoBulk d + 1
  | .slice elems spare => uptoBulkAll elems + uptoBulkAll spare + 1
  | .agg parts => uptoBulkAll parts + 1
  | .iface _ d => uptoBulk d + 1
  | .map entries => uptoBulkEntries entries + 1
  | .held _ => 1
def uptoBulkAll {H : Type} : List (DataW H) → Nat
  | [] => 0
  | d :: r => uptoBulk d + uptoBulkAll r
def uptoBulkEntries {H : Type} : List (Lit × DataW H) → Nat
  | [] => 0
  | x :: r => uptoBulkEntry x + uptoBulkEntries r
def uptoBulkEntry {H : Type} : Lit × DataW H → Nat
  | (.string bytes, d) => bytes.length + uptoBulk d + 1
  | (_, d) => uptoBulk d + 1
 end
def uptoSmall : (H : Type) → List (DataW H) → Bool := fun _ ds => decide (uptoBulkAll ds ≤ 1048576)
def OpenSpec.upto (s : _root_.Go.ChangeSpec) : _root_.Go.OpenSpec := { _root_.Go.OpenSpec.ofChange s with cond := some uptoSmall }

/-- 'tidemarklaw11.LedgerFirst', WHERE WHAT IT READS IS OF BULK AT MOST 1048576: true; the input reads as it did. -/
def ledgerFirstUptoRow : OpenClaim := { program := "ytpobdcdabojhcaa", sum := "b1075f7701fb84d0830025d3494984938d12f38247c50da8f2bfd9bbb606739a", func := "tidemark/tidemarklaw11.LedgerFirst", spec := "ledgerFirst", plainKeys := false, apart := false, narrowed := true }
def LedgerFirstUptoSaid : Prop := ledgerFirstUptoRow.holds Try.pinned (OpenSpec.upto ledgerFirstSpec)

/-- 'tidemarklaw11.LedgerAgree', WHERE WHAT IT READS IS OF BULK AT MOST 1048576: true; the input reads as it did. -/
def ledgerAgreeUptoRow : OpenClaim := { program := "ytpobdcdabojhcaa", sum := "b1075f7701fb84d0830025d3494984938d12f38247c50da8f2bfd9bbb606739a", func := "tidemark/tidemarklaw11.LedgerAgree", spec := "ledgerAgree", unfollowed := true, recurses := true, plainKeys := false, apart := false, narrowed := true }
def LedgerAgreeUptoSaid : Prop := ledgerAgreeUptoRow.holds Try.pinned (OpenSpec.upto ledgerAgreeSpec)

/-- 'tidemarklaw11.LedgerLists', WHERE WHAT IT READS IS OF BULK AT MOST 1048576: true; the input reads as it did. -/
def ledgerListsUptoRow : OpenClaim := { program := "ytpobdcdabojhcaa", sum := "b1075f7701fb84d0830025d3494984938d12f38247c50da8f2bfd9bbb606739a", func := "tidemark/tidemarklaw11.LedgerLists", spec := "ledgerLists", unfollowed := true, recurses := true, plainKeys := false, apart := false, narrowed := true }
def LedgerListsUptoSaid : Prop := ledgerListsUptoRow.holds Try.pinned (OpenSpec.upto ledgerListsSpec)

/-- 'tidemarklaw11.LedgerSorted', WHERE WHAT IT READS IS OF BULK AT MOST 1048576: true; the input reads as it did. -/
def ledgerSortedUptoRow : OpenClaim := { program := "ytpobdcdabojhcaa", sum := "b1075f7701fb84d0830025d3494984938d12f38247c50da8f2bfd9bbb606739a", func := "tidemark/tidemarklaw11.LedgerSorted", spec := "ledgerSorted", unfollowed := true, recurses := true, plainKeys := false, apart := false, narrowed := true }
def LedgerSortedUptoSaid : Prop := ledgerSortedUptoRow.holds Try.pinned (OpenSpec.upto ledgerSortedSpec)

/-- 'tidemarklaw11.LedgerPlays', WHERE WHAT IT READS IS OF BULK AT MOST 1048576: true; the input reads as it did. -/
def ledgerPlaysUptoRow : OpenClaim := { program := "ytpobdcdabojhcaa", sum := "b1075f7701fb84d0830025d3494984938d12f38247c50da8f2bfd9bbb606739a", func := "tidemark/tidemarklaw11.LedgerPlays", spec := "ledgerPlays", unfollowed := true, recurses := true, plainKeys := false, apart := false, narrowed := true }
def LedgerPlaysUptoSaid : Prop := ledgerPlaysUptoRow.holds Try.pinned (OpenSpec.upto ledgerPlaysSpec)

/-- 'tidemarklaw11.LedgerDiffers', WHERE WHAT IT READS IS OF BULK AT MOST 1048576: true; the input reads as it did. -/
def ledgerDiffersUptoRow : OpenClaim := { program := "ytpobdcdabojhcaa", sum := "b1075f7701fb84d0830025d3494984938d12f38247c50da8f2bfd9bbb606739a", func := "tidemark/tidemarklaw11.LedgerDiffers", spec := "ledgerDiffers", unfollowed := true, recurses := true, plainKeys := false, apart := false, narrowed := true }
def LedgerDiffersUptoSaid : Prop := ledgerDiffersUptoRow.holds Try.pinned (OpenSpec.upto ledgerDiffersSpec)

end Rows
end Go.Proofs.Ytpobdcdabojhcaa
