/-
  No cell of these rows narrows 'for every input' (looked for: loops, veiled, ifaces, maps, wideKeys, modest, calm, conditions, laid).
  DERIVED. THE GIVEN ROWS OF THIS SEAT. 7 by the template 'for every input the law returns true; each argument reads behind the call as it read before'; 0 by the template 'total and deterministic' (their statements: YtledfhoifdihhaaTotals.lean).
  GIVEN WITH THE SEED: the statements are not yours to turn. If you find one false, say at which input.
  Laid BY PROGRAM, IN A SANDBOX (cutbox-rows.mjs): the forced cells as the released guide's own fill.sh prints them over the translation c674374adcbc165e… (all of the seat's roots in one cut). By AI agents, Wed Nov 11 2026. No macro, syntax, notation, axiom, sorry.
-/
import Derived.Test.YtledfhoifdihhaaChecked
import GoSem.Claim
import GoSem.ClaimJoined
import GoSem.ClaimMapViews
import Derived.JoinedTies
import Derived.KernelRfl
namespace Go.Proofs.Ytledfhoifdihhaa
/- THE CELL 'sum', in the pinned program and in every row, IS THE sha256 OF THE DUMP (.gsa) THAT YtledfhoifdihhaaProg.lean LOADS. Nothing in Lean hashes anything: it is a label: what it is worth is what the hold of that sum in a sandbox is worth. -/
noncomputable def Try.pinned : Pinned := { name := "ytledfhoifdihhaa", sum := "c674374adcbc165ef450193e35367b33ab0b19809e8c598edf5706e2ef3b3408", checked := Try.checked }
namespace Rows
def none {H : Type} : Left H := { results := [], args := [] }

/-- 'tidemarklaw10.LocksInside': WHATEVER THE INPUT: true; the input reads as it did. -/
def locksInsideSpec : ChangeSpec := { name := "locksInside", fn := fun _ => fun
  | [d] => { results := [.lit (.bool true)], args := [d] }
  | _ => none }
def locksInsideRow : OpenClaim := { program := "ytledfhoifdihhaa", sum := "c674374adcbc165ef450193e35367b33ab0b19809e8c598edf5706e2ef3b3408", func := "tidemark/tidemarklaw10.LocksInside", spec := "locksInside", plainKeys := false, apart := false }
def LocksInsideSaid : Prop := locksInsideRow.holds Try.pinned (OpenSpec.ofChange locksInsideSpec)

/-- ITS FALSE NEIGHBOUR: 'it returns false'. Refute it at one input. -/
def locksInsideWrong : ChangeSpec := { name := "locksInside", fn := fun _ => fun
  | [d] => { results := [.lit (.bool false)], args := [d] }
  | _ => none }
def LocksInsideWrongFalsely : Prop := locksInsideRow.holds Try.pinned (OpenSpec.ofChange locksInsideWrong)

/-- 'tidemarklaw10.LocksOverlap': WHATEVER THE INPUT: true; the input reads as it did. -/
def locksOverlapSpec : ChangeSpec := { name := "locksOverlap", fn := fun _ => fun
  | [d] => { results := [.lit (.bool true)], args := [d] }
  | _ => none }
def locksOverlapRow : OpenClaim := { program := "ytledfhoifdihhaa", sum := "c674374adcbc165ef450193e35367b33ab0b19809e8c598edf5706e2ef3b3408", func := "tidemark/tidemarklaw10.LocksOverlap", spec := "locksOverlap", plainKeys := false, apart := false }
def LocksOverlapSaid : Prop := locksOverlapRow.holds Try.pinned (OpenSpec.ofChange locksOverlapSpec)

/-- ITS FALSE NEIGHBOUR: 'it returns false'. Refute it at one input. -/
def locksOverlapWrong : ChangeSpec := { name := "locksOverlap", fn := fun _ => fun
  | [d] => { results := [.lit (.bool false)], args := [d] }
  | _ => none }
def LocksOverlapWrongFalsely : Prop := locksOverlapRow.holds Try.pinned (OpenSpec.ofChange locksOverlapWrong)

/-- 'tidemarklaw10.LocksWitness': WHATEVER THE INPUT: true; the input reads as it did. -/
def locksWitnessSpec : ChangeSpec := { name := "locksWitness", fn := fun _ => fun
  | [d] => { results := [.lit (.bool true)], args := [d] }
  | _ => none }
def locksWitnessRow : OpenClaim := { program := "ytledfhoifdihhaa", sum := "c674374adcbc165ef450193e35367b33ab0b19809e8c598edf5706e2ef3b3408", func := "tidemark/tidemarklaw10.LocksWitness", spec := "locksWitness", plainKeys := false, apart := false }
def LocksWitnessSaid : Prop := locksWitnessRow.holds Try.pinned (OpenSpec.ofChange locksWitnessSpec)

/-- ITS FALSE NEIGHBOUR: 'it returns false'. Refute it at one input. -/
def locksWitnessWrong : ChangeSpec := { name := "locksWitness", fn := fun _ => fun
  | [d] => { results := [.lit (.bool false)], args := [d] }
  | _ => none }
def LocksWitnessWrongFalsely : Prop := locksWitnessRow.holds Try.pinned (OpenSpec.ofChange locksWitnessWrong)

/-- 'tidemarklaw10.LocksApart': WHATEVER THE INPUT: true; the input reads as it did. -/
def locksApartSpec : ChangeSpec := { name := "locksApart", fn := fun _ => fun
  | [d] => { results := [.lit (.bool true)], args := [d] }
  | _ => none }
def locksApartRow : OpenClaim := { program := "ytledfhoifdihhaa", sum := "c674374adcbc165ef450193e35367b33ab0b19809e8c598edf5706e2ef3b3408", func := "tidemark/tidemarklaw10.LocksApart", spec := "locksApart", unfollowed := true, recurses := true, plainKeys := false, apart := false }
def LocksApartSaid : Prop := locksApartRow.holds Try.pinned (OpenSpec.ofChange locksApartSpec)

/-- ITS FALSE NEIGHBOUR: 'it returns false'. Refute it at one input. -/
def locksApartWrong : ChangeSpec := { name := "locksApart", fn := fun _ => fun
  | [d] => { results := [.lit (.bool false)], args := [d] }
  | _ => none }
def LocksApartWrongFalsely : Prop := locksApartRow.holds Try.pinned (OpenSpec.ofChange locksApartWrong)

/-- 'tidemarklaw10.LocksUndone': WHATEVER THE INPUT: true; the input reads as it did. -/
def locksUndoneSpec : ChangeSpec := { name := "locksUndone", fn := fun _ => fun
  | [d] => { results := [.lit (.bool true)], args := [d] }
  | _ => none }
def locksUndoneRow : OpenClaim := { program := "ytledfhoifdihhaa", sum := "c674374adcbc165ef450193e35367b33ab0b19809e8c598edf5706e2ef3b3408", func := "tidemark/tidemarklaw10.LocksUndone", spec := "locksUndone", unfollowed := true, recurses := true, plainKeys := false, apart := false }
def LocksUndoneSaid : Prop := locksUndoneRow.holds Try.pinned (OpenSpec.ofChange locksUndoneSpec)

/-- ITS FALSE NEIGHBOUR: 'it returns false'. Refute it at one input. -/
def locksUndoneWrong : ChangeSpec := { name := "locksUndone", fn := fun _ => fun
  | [d] => { results := [.lit (.bool false)], args := [d] }
  | _ => none }
def LocksUndoneWrongFalsely : Prop := locksUndoneRow.holds Try.pinned (OpenSpec.ofChange locksUndoneWrong)

/-- 'tidemarklaw10.LocksBlocks': WHATEVER THE INPUT: true; the input reads as it did. -/
def locksBlocksSpec : ChangeSpec := { name := "locksBlocks", fn := fun _ => fun
  | [d] => { results := [.lit (.bool true)], args := [d] }
  | _ => none }
def locksBlocksRow : OpenClaim := { program := "ytledfhoifdihhaa", sum := "c674374adcbc165ef450193e35367b33ab0b19809e8c598edf5706e2ef3b3408", func := "tidemark/tidemarklaw10.LocksBlocks", spec := "locksBlocks", unfollowed := true, recurses := true, plainKeys := false, apart := false }
def LocksBlocksSaid : Prop := locksBlocksRow.holds Try.pinned (OpenSpec.ofChange locksBlocksSpec)

/-- ITS FALSE NEIGHBOUR: 'it returns false'. Refute it at one input. -/
def locksBlocksWrong : ChangeSpec := { name := "locksBlocks", fn := fun _ => fun
  | [d] => { results := [.lit (.bool false)], args := [d] }
  | _ => none }
def LocksBlocksWrongFalsely : Prop := locksBlocksRow.holds Try.pinned (OpenSpec.ofChange locksBlocksWrong)

/-- 'tidemarklaw10.LocksPlays': WHATEVER THE INPUT: true; the input reads as it did. -/
def locksPlaysSpec : ChangeSpec := { name := "locksPlays", fn := fun _ => fun
  | [d] => { results := [.lit (.bool true)], args := [d] }
  | _ => none }
def locksPlaysRow : OpenClaim := { program := "ytledfhoifdihhaa", sum := "c674374adcbc165ef450193e35367b33ab0b19809e8c598edf5706e2ef3b3408", func := "tidemark/tidemarklaw10.LocksPlays", spec := "locksPlays", unfollowed := true, recurses := true, plainKeys := false, apart := false }
def LocksPlaysSaid : Prop := locksPlaysRow.holds Try.pinned (OpenSpec.ofChange locksPlaysSpec)

/-- ITS FALSE NEIGHBOUR: 'it returns false'. Refute it at one input. -/
def locksPlaysWrong : ChangeSpec := { name := "locksPlays", fn := fun _ => fun
  | [d] => { results := [.lit (.bool false)], args := [d] }
  | _ => none }
def LocksPlaysWrongFalsely : Prop := locksPlaysRow.holds Try.pinned (OpenSpec.ofChange locksPlaysWrong)

/- THE SECOND FORM. 'bulk': how many values and letters a reading holds, each counted each time it is reached (what is shared counts as often as it is met; a slice's spare places count too). A statement '..UptoSaid' is the law's where the arguments, and the package variables that the reading takes, are together of bulk at most 1048576: NARROWER than '..Said'. Prove '..Said' where nothing that the law and all that it calls make is longer than what came in: it says more and counts as full. Else prove '..UptoSaid'. A law counts once. -/
mutual
def uptoBulk {H : Type} : DataW H → Nat
  | .lit (.string bytes) => bytes.length + 1
  | .lit _ => 1
  | .nil => 1
  | .ptr d => uptoBulk d + 1
  | .slice elems spare => uptoBulkAll elems + uptoBulkAll spare + 1
  | .agg parts => uptoBulkAll parts + 1
  | .iface _ d => uptoBulk d + 1
  | .map entries => uptoBulkEntries entries + 1
  | .held _ => 1
def uptoBulkAll {H : Type} : List (DataW H) → Nat
  | [] => 0
  | d :: r => uptoBulk d + uptoBulkAll r
def uptoBulkEntries {H : Type} : List (Lit × DataW H) → Nat
  | [] => 0
  | x :: r => uptoBulkEntry x + uptoBulkEntries r
def uptoBulkEntry {H : Type} : Lit × DataW H → Nat
  | (.string bytes, d) => bytes.length + uptoBulk d + 1
  | (_, d) => uptoBulk d + 1
 end
def uptoSmall : (H : Type) → List (DataW H) → Bool := fun _ ds => decide (uptoBulkAll ds ≤ 1048576)
def OpenSpec.upto (s : _root_.Go.ChangeSpec) : _root_.Go.OpenSpec := { _root_.Go.OpenSpec.ofChange s with cond := some uptoSmall }

/-- 'tidemarklaw10.LocksInside', WHERE WHAT IT READS IS OF BULK AT MOST 1048576: true; the input reads as it did. -/
def locksInsideUptoRow : OpenClaim := { program := "ytledfhoifdihhaa", sum := "c674374adcbc165ef450193e35367b33ab0b19809e8c598edf5706e2ef3b3408", func := "tidemark/tidemarklaw10.LocksInside", spec := "locksInside", plainKeys := false, apart := false, narrowed := true }
def LocksInsideUptoSaid : Prop := locksInsideUptoRow.holds Try.pinned (OpenSpec.upto locksInsideSpec)

/-- 'tidemarklaw10.LocksOverlap', WHERE WHAT IT READS IS OF BULK AT MOST 1048576: true; the input reads as it did. -/
def locksOverlapUptoRow : OpenClaim := { program := "ytledfhoifdihhaa", sum := "c674374adcbc165ef450193e35367b33ab0b19809e8c598edf5706e2ef3b3408", func := "tidemark/tidemarklaw10.LocksOverlap", spec := "locksOverlap", plainKeys := false, apart := false, narrowed := true }
def LocksOverlapUptoSaid : Prop := locksOverlapUptoRow.holds Try.pinned (OpenSpec.upto locksOverlapSpec)

/-- 'tidemarklaw10.LocksWitness', WHERE WHAT IT READS IS OF BULK AT MOST 1048576: true; the input reads as it did. -/
def locksWitnessUptoRow : OpenClaim := { program := "ytledfhoifdihhaa", sum := "c674374adcbc165ef450193e35367b33ab0b19809e8c598edf5706e2ef3b3408", func := "tidemark/tidemarklaw10.LocksWitness", spec := "locksWitness", plainKeys := false, apart := false, narrowed := true }
def LocksWitnessUptoSaid : Prop := locksWitnessUptoRow.holds Try.pinned (OpenSpec.upto locksWitnessSpec)

/-- 'tidemarklaw10.LocksApart', WHERE WHAT IT READS IS OF BULK AT MOST 1048576: true; the input reads as it did. -/
def locksApartUptoRow : OpenClaim := { program := "ytledfhoifdihhaa", sum := "c674374adcbc165ef450193e35367b33ab0b19809e8c598edf5706e2ef3b3408", func := "tidemark/tidemarklaw10.LocksApart", spec := "locksApart", unfollowed := true, recurses := true, plainKeys := false, apart := false, narrowed := true }
def LocksApartUptoSaid : Prop := locksApartUptoRow.holds Try.pinned (OpenSpec.upto locksApartSpec)

/-- 'tidemarklaw10.LocksUndone', WHERE WHAT IT READS IS OF BULK AT MOST 1048576: true; the input reads as it did. -/
def locksUndoneUptoRow : OpenClaim := { program := "ytledfhoifdihhaa", sum := "c674374adcbc165ef450193e35367b33ab0b19809e8c598edf5706e2ef3b3408", func := "tidemark/tidemarklaw10.LocksUndone", spec := "locksUndone", unfollowed := true, recurses := true, plainKeys := false, apart := false, narrowed := true }
def LocksUndoneUptoSaid : Prop := locksUndoneUptoRow.holds Try.pinned (OpenSpec.upto locksUndoneSpec)

/-- 'tidemarklaw10.LocksBlocks', WHERE WHAT IT READS IS OF BULK AT MOST 1048576: true; the input reads as it did. -/
def locksBlocksUptoRow : OpenClaim := { program := "ytledfhoifdihhaa", sum := "c674374adcbc165ef450193e35367b33ab0b19809e8c598edf5706e2ef3b3408", func := "tidemark/tidemarklaw10.LocksBlocks", spec := "locksBlocks", unfollowed := true, recurses := true, plainKeys := false, apart := false, narrowed := true }
def LocksBlocksUptoSaid : Prop := locksBlocksUptoRow.holds Try.pinned (OpenSpec.upto locksBlocksSpec)

/-- 'tidemarklaw10.LocksPlays', WHERE WHAT IT READS IS OF BULK AT MOST 1048576: true; the input reads as it did. -/
def locksPlaysUptoRow : OpenClaim := { program := "ytledfhoifdihhaa", sum := "c674374adcbc165ef450193e35367b33ab0b19809e8c598edf5706e2ef3b3408", func := "tidemark/tidemarklaw10.LocksPlays", spec := "locksPlays", unfollowed := true, recurses := true, plainKeys := false, apart := false, narrowed := true }
def LocksPlaysUptoSaid : Prop := locksPlaysUptoRow.holds Try.pinned (OpenSpec.upto locksPlaysSpec)

end Rows
end Go.Proofs.Ytledfhoifdihhaa
