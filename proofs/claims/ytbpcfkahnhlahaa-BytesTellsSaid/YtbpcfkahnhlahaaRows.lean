/-
  No cell of these rows narrows 'for every input' (looked for: loops, veiled, ifaces, maps, wideKeys, modest, calm, conditions, laid).
  DERIVED. THE GIVEN ROWS OF THIS SEAT. 7 by the template 'for every input the law returns true; each argument reads behind the call as it read before'; 0 by the template 'total and deterministic' (their statements: YtbpcfkahnhlahaaTotals.lean).
  GIVEN WITH THE SEED: the statements are not yours to turn. If you find one false, say at which input.
  Laid BY PROGRAM, IN A SANDBOX (cutbox-rows.mjs): the forced cells as the released guide's own fill.sh prints them over the translation 9bb65a2255aa2923… (all of the seat's roots in one cut). By AI agents, Wed Nov 11 2026. No macro, syntax, notation, axiom, sorry.
-/
import Derived.Test.YtbpcfkahnhlahaaChecked
import GoSem.Claim
import GoSem.ClaimJoined
import GoSem.ClaimMapViews
import Derived.JoinedTies
import Derived.KernelRfl
namespace Go.Proofs.Ytbpcfkahnhlahaa
/- THE CELL 'sum', in the pinned program and in every row, IS THE sha256 OF THE DUMP (.gsa) THAT YtbpcfkahnhlahaaProg.lean LOADS. Nothing in Lean hashes anything: it is a label: what it is worth is what the hold of that sum in a sandbox is worth. -/
noncomputable def Try.pinned : Pinned := { name := "ytbpcfkahnhlahaa", sum := "9bb65a2255aa29232b34bc66c6ae40f870d515794aac81243bcb6e4264835a92", checked := Try.checked }
namespace Rows
def none {H : Type} : Left H := { results := [], args := [] }

/-- 'cardindexlaw01.BytesNumbers': WHATEVER THE INPUT: true; the input reads as it did. -/
def bytesNumbersSpec : ChangeSpec := { name := "bytesNumbers", fn := fun _ => fun
  | [] => { results := [.lit (.bool true)], args := [] }
  | _ => none }
def bytesNumbersRow : OpenClaim := { program := "ytbpcfkahnhlahaa", sum := "9bb65a2255aa29232b34bc66c6ae40f870d515794aac81243bcb6e4264835a92", func := "cardindex/cardindexlaw01.BytesNumbers", spec := "bytesNumbers", apart := false }
def BytesNumbersSaid : Prop := bytesNumbersRow.holds Try.pinned (OpenSpec.ofChange bytesNumbersSpec)

/-- ITS FALSE NEIGHBOUR: 'it returns false'. Refute it at one input. -/
def bytesNumbersWrong : ChangeSpec := { name := "bytesNumbers", fn := fun _ => fun
  | [] => { results := [.lit (.bool false)], args := [] }
  | _ => none }
def BytesNumbersWrongFalsely : Prop := bytesNumbersRow.holds Try.pinned (OpenSpec.ofChange bytesNumbersWrong)

/-- 'cardindexlaw01.BytesTells': WHATEVER THE INPUT: true; the input reads as it did. -/
def bytesTellsSpec : ChangeSpec := { name := "bytesTells", fn := fun _ => fun
  | [d1, d2, d3, d4, d5, d6] => { results := [.lit (.bool true)], args := [d1, d2, d3, d4, d5, d6] }
  | _ => none }
def bytesTellsRow : OpenClaim := { program := "ytbpcfkahnhlahaa", sum := "9bb65a2255aa29232b34bc66c6ae40f870d515794aac81243bcb6e4264835a92", func := "cardindex/cardindexlaw01.BytesTells", spec := "bytesTells", apart := false }
def BytesTellsSaid : Prop := bytesTellsRow.holds Try.pinned (OpenSpec.ofChange bytesTellsSpec)

/-- ITS FALSE NEIGHBOUR: 'it returns false'. Refute it at one input. -/
def bytesTellsWrong : ChangeSpec := { name := "bytesTells", fn := fun _ => fun
  | [d1, d2, d3, d4, d5, d6] => { results := [.lit (.bool false)], args := [d1, d2, d3, d4, d5, d6] }
  | _ => none }
def BytesTellsWrongFalsely : Prop := bytesTellsRow.holds Try.pinned (OpenSpec.ofChange bytesTellsWrong)

/-- 'cardindexlaw01.BytesDrawer': WHATEVER THE INPUT: true; the input reads as it did. -/
def bytesDrawerSpec : ChangeSpec := { name := "bytesDrawer", fn := fun _ => fun
  | [d1, d2, d3, d4] => { results := [.lit (.bool true)], args := [d1, d2, d3, d4] }
  | _ => none }
def bytesDrawerRow : OpenClaim := { program := "ytbpcfkahnhlahaa", sum := "9bb65a2255aa29232b34bc66c6ae40f870d515794aac81243bcb6e4264835a92", func := "cardindex/cardindexlaw01.BytesDrawer", spec := "bytesDrawer", unfollowed := true, recurses := true, apart := false }
def BytesDrawerSaid : Prop := bytesDrawerRow.holds Try.pinned (OpenSpec.ofChange bytesDrawerSpec)

/-- ITS FALSE NEIGHBOUR: 'it returns false'. Refute it at one input. -/
def bytesDrawerWrong : ChangeSpec := { name := "bytesDrawer", fn := fun _ => fun
  | [d1, d2, d3, d4] => { results := [.lit (.bool false)], args := [d1, d2, d3, d4] }
  | _ => none }
def BytesDrawerWrongFalsely : Prop := bytesDrawerRow.holds Try.pinned (OpenSpec.ofChange bytesDrawerWrong)

/-- 'cardindexlaw01.BytesCount': WHATEVER THE INPUT: true; the input reads as it did. -/
def bytesCountSpec : ChangeSpec := { name := "bytesCount", fn := fun _ => fun
  | [d1, d2] => { results := [.lit (.bool true)], args := [d1, d2] }
  | _ => none }
def bytesCountRow : OpenClaim := { program := "ytbpcfkahnhlahaa", sum := "9bb65a2255aa29232b34bc66c6ae40f870d515794aac81243bcb6e4264835a92", func := "cardindex/cardindexlaw01.BytesCount", spec := "bytesCount", apart := false }
def BytesCountSaid : Prop := bytesCountRow.holds Try.pinned (OpenSpec.ofChange bytesCountSpec)

/-- ITS FALSE NEIGHBOUR: 'it returns false'. Refute it at one input. -/
def bytesCountWrong : ChangeSpec := { name := "bytesCount", fn := fun _ => fun
  | [d1, d2] => { results := [.lit (.bool false)], args := [d1, d2] }
  | _ => none }
def BytesCountWrongFalsely : Prop := bytesCountRow.holds Try.pinned (OpenSpec.ofChange bytesCountWrong)

/-- 'cardindexlaw01.BytesPowers': WHATEVER THE INPUT: true; the input reads as it did. -/
def bytesPowersSpec : ChangeSpec := { name := "bytesPowers", fn := fun _ => fun
  | [d1, d2] => { results := [.lit (.bool true)], args := [d1, d2] }
  | _ => none }
def bytesPowersRow : OpenClaim := { program := "ytbpcfkahnhlahaa", sum := "9bb65a2255aa29232b34bc66c6ae40f870d515794aac81243bcb6e4264835a92", func := "cardindex/cardindexlaw01.BytesPowers", spec := "bytesPowers", apart := false }
def BytesPowersSaid : Prop := bytesPowersRow.holds Try.pinned (OpenSpec.ofChange bytesPowersSpec)

/-- ITS FALSE NEIGHBOUR: 'it returns false'. Refute it at one input. -/
def bytesPowersWrong : ChangeSpec := { name := "bytesPowers", fn := fun _ => fun
  | [d1, d2] => { results := [.lit (.bool false)], args := [d1, d2] }
  | _ => none }
def BytesPowersWrongFalsely : Prop := bytesPowersRow.holds Try.pinned (OpenSpec.ofChange bytesPowersWrong)

/-- 'cardindexlaw01.BytesJoin': WHATEVER THE INPUT: true; the input reads as it did. -/
def bytesJoinSpec : ChangeSpec := { name := "bytesJoin", fn := fun _ => fun
  | [d1, d2] => { results := [.lit (.bool true)], args := [d1, d2] }
  | _ => none }
def bytesJoinRow : OpenClaim := { program := "ytbpcfkahnhlahaa", sum := "9bb65a2255aa29232b34bc66c6ae40f870d515794aac81243bcb6e4264835a92", func := "cardindex/cardindexlaw01.BytesJoin", spec := "bytesJoin", unfollowed := true, recurses := true, apart := false }
def BytesJoinSaid : Prop := bytesJoinRow.holds Try.pinned (OpenSpec.ofChange bytesJoinSpec)

/-- ITS FALSE NEIGHBOUR: 'it returns false'. Refute it at one input. -/
def bytesJoinWrong : ChangeSpec := { name := "bytesJoin", fn := fun _ => fun
  | [d1, d2] => { results := [.lit (.bool false)], args := [d1, d2] }
  | _ => none }
def BytesJoinWrongFalsely : Prop := bytesJoinRow.holds Try.pinned (OpenSpec.ofChange bytesJoinWrong)

/-- 'cardindexlaw01.BytesLimits': WHATEVER THE INPUT: true; the input reads as it did. -/
def bytesLimitsSpec : ChangeSpec := { name := "bytesLimits", fn := fun _ => fun
  | [d1, d2, d3, d4] => { results := [.lit (.bool true)], args := [d1, d2, d3, d4] }
  | _ => none }
def bytesLimitsRow : OpenClaim := { program := "ytbpcfkahnhlahaa", sum := "9bb65a2255aa29232b34bc66c6ae40f870d515794aac81243bcb6e4264835a92", func := "cardindex/cardindexlaw01.BytesLimits", spec := "bytesLimits", apart := false }
def BytesLimitsSaid : Prop := bytesLimitsRow.holds Try.pinned (OpenSpec.ofChange bytesLimitsSpec)

/-- ITS FALSE NEIGHBOUR: 'it returns false'. Refute it at one input. -/
def bytesLimitsWrong : ChangeSpec := { name := "bytesLimits", fn := fun _ => fun
  | [d1, d2, d3, d4] => { results := [.lit (.bool false)], args := [d1, d2, d3, d4] }
  | _ => none }
def BytesLimitsWrongFalsely : Prop := bytesLimitsRow.holds Try.pinned (OpenSpec.ofChange bytesLimitsWrong)

/- THE SECOND FORM. 'bulk': how many values and letters a reading holds, each counted each time it is reached (what is shared counts as often as it is met; a slice's spare places count too). A statement '..UptoSaid' is the law's where the arguments, and the package variables that the reading takes, are together of bulk at most 1048576: NARROWER than '..Said'. Prove '..Said' where nothing that the law and all that it calls make is longer than what came in: it says more and counts as full. Else prove '..UptoSaid'. A law counts once. -/
mutual
def uptoBulk {H : Type} : DataW H → Nat
  | .lit (.string bytes) => bytes.length + 1
  | .lit _ => 1
  | .nil => 1
  | .ptr d => uptoBulk d + 1
  | .slice elems spare => uptoBulkAll elems + uptoBulkAll spare + 1
  | .agg parts => uptoBulkAll parts + 1
  | .iface _ d => uptoBulk d + 1
  | .map entries => uptoBulkEntries entries + 1
  | .held _ => 1
def uptoBulkAll {H : Type} : List (DataW H) → Nat
  | [] => 0
  | d :: r => uptoBulk d + uptoBulkAll r
def uptoBulkEntries {H : Type} : List (Lit × DataW H) → Nat
  | [] => 0
  | x :: r => uptoBulkEntry x + uptoBulkEntries r
def uptoBulkEntry {H : Type} : Lit × DataW H → Nat
  | (.string bytes, d) => bytes.length + uptoBulk d + 1
  | (_, d) => uptoBulk d + 1
 end
def uptoSmall : (H : Type) → List (DataW H) → Bool := fun _ ds => decide (uptoBulkAll ds ≤ 1048576)
def OpenSpec.upto (s : _root_.Go.ChangeSpec) : _root_.Go.OpenSpec := { _root_.Go.OpenSpec.ofChange s with cond := some uptoSmall }

/-- 'cardindexlaw01.BytesNumbers', WHERE WHAT IT READS IS OF BULK AT MOST 1048576: true; the input reads as it did. -/
def bytesNumbersUptoRow : OpenClaim := { program := "ytbpcfkahnhlahaa", sum := "9bb65a2255aa29232b34bc66c6ae40f870d515794aac81243bcb6e4264835a92", func := "cardindex/cardindexlaw01.BytesNumbers", spec := "bytesNumbers", apart := false, narrowed := true }
def BytesNumbersUptoSaid : Prop := bytesNumbersUptoRow.holds Try.pinned (OpenSpec.upto bytesNumbersSpec)

/-- 'cardindexlaw01.BytesTells', WHERE WHAT IT READS IS OF BULK AT MOST 1048576: true; the input reads as it did. -/
def bytesTellsUptoRow : OpenClaim := { program := "ytbpcfkahnhlahaa", sum := "9bb65a2255aa29232b34bc66c6ae40f870d515794aac81243bcb6e4264835a92", func := "cardindex/cardindexlaw01.BytesTells", spec := "bytesTells", apart := false, narrowed := true }
def BytesTellsUptoSaid : Prop := bytesTellsUptoRow.holds Try.pinned (OpenSpec.upto bytesTellsSpec)

/-- 'cardindexlaw01.BytesDrawer', WHERE WHAT IT READS IS OF BULK AT MOST 1048576: true; the input reads as it did. -/
def bytesDrawerUptoRow : OpenClaim := { program := "ytbpcfkahnhlahaa", sum := "9bb65a2255aa29232b34bc66c6ae40f870d515794aac81243bcb6e4264835a92", func := "cardindex/cardindexlaw01.BytesDrawer", spec := "bytesDrawer", unfollowed := true, recurses := true, apart := false, narrowed := true }
def BytesDrawerUptoSaid : Prop := bytesDrawerUptoRow.holds Try.pinned (OpenSpec.upto bytesDrawerSpec)

/-- 'cardindexlaw01.BytesCount', WHERE WHAT IT READS IS OF BULK AT MOST 1048576: true; the input reads as it did. -/
def bytesCountUptoRow : OpenClaim := { program := "ytbpcfkahnhlahaa", sum := "9bb65a2255aa29232b34bc66c6ae40f870d515794aac81243bcb6e4264835a92", func := "cardindex/cardindexlaw01.BytesCount", spec := "bytesCount", apart := false, narrowed := true }
def BytesCountUptoSaid : Prop := bytesCountUptoRow.holds Try.pinned (OpenSpec.upto bytesCountSpec)

/-- 'cardindexlaw01.BytesPowers', WHERE WHAT IT READS IS OF BULK AT MOST 1048576: true; the input reads as it did. -/
def bytesPowersUptoRow : OpenClaim := { program := "ytbpcfkahnhlahaa", sum := "9bb65a2255aa29232b34bc66c6ae40f870d515794aac81243bcb6e4264835a92", func := "cardindex/cardindexlaw01.BytesPowers", spec := "bytesPowers", apart := false, narrowed := true }
def BytesPowersUptoSaid : Prop := bytesPowersUptoRow.holds Try.pinned (OpenSpec.upto bytesPowersSpec)

/-- 'cardindexlaw01.BytesJoin', WHERE WHAT IT READS IS OF BULK AT MOST 1048576: true; the input reads as it did. -/
def bytesJoinUptoRow : OpenClaim := { program := "ytbpcfkahnhlahaa", sum := "9bb65a2255aa29232b34bc66c6ae40f870d515794aac81243bcb6e4264835a92", func := "cardindex/cardindexlaw01.BytesJoin", spec := "bytesJoin", unfollowed := true, recurses := true, apart := false, narrowed := true }
def BytesJoinUptoSaid : Prop := bytesJoinUptoRow.holds Try.pinned (OpenSpec.upto bytesJoinSpec)

/-- 'cardindexlaw01.BytesLimits', WHERE WHAT IT READS IS OF BULK AT MOST 1048576: true; the input reads as it did. -/
def bytesLimitsUptoRow : OpenClaim := { program := "ytbpcfkahnhlahaa", sum := "9bb65a2255aa29232b34bc66c6ae40f870d515794aac81243bcb6e4264835a92", func := "cardindex/cardindexlaw01.BytesLimits", spec := "bytesLimits", apart := false, narrowed := true }
def BytesLimitsUptoSaid : Prop := bytesLimitsUptoRow.holds Try.pinned (OpenSpec.upto bytesLimitsSpec)

end Rows
end Go.Proofs.Ytbpcfkahnhlahaa
