/-
  No cell of these rows narrows 'for every input' (looked for: loops, veiled, ifaces, maps, wideKeys, modest, calm, conditions, laid).
  DERIVED. THE GIVEN ROWS OF THIS SEAT. 12 by the template 'for every input the law returns true; each argument reads behind the call as it read before'; 0 by the template 'total and deterministic' (their statements: YthfagbfllheneaaTotals.lean).
  GIVEN WITH THE SEED: the statements are not yours to turn. If you find one false, say at which input.
  Laid BY PROGRAM, IN A SANDBOX (cutbox-rows.mjs): the forced cells as the released guide's own fill.sh prints them over the translation d8a7d7f7af5b4f6b… (all of the seat's roots in one cut). By AI agents, Wed Nov 11 2026. No macro, syntax, notation, axiom, sorry.
-/
import Derived.Test.YthfagbfllheneaaChecked
import GoSem.Claim
import GoSem.ClaimJoined
import GoSem.ClaimMapViews
import Derived.JoinedTies
import Derived.KernelRfl
namespace Go.Proofs.Ythfagbfllheneaa
/- THE CELL 'sum', in the pinned program and in every row, IS THE sha256 OF THE DUMP (.gsa) THAT YthfagbfllheneaaProg.lean LOADS. Nothing in Lean hashes anything: it is a label: what it is worth is what the hold of that sum in a sandbox is worth. -/
noncomputable def Try.pinned : Pinned := { name := "ythfagbfllheneaa", sum := "d8a7d7f7af5b4f6b7fd130c83506c1a6cf98a886e5c4e0b302f6aae7e1049e11", checked := Try.checked }
namespace Rows
def none {H : Type} : Left H := { results := [], args := [] }

/-- 'cardindexlaw05.UndoFree': WHATEVER THE INPUT: true; the input reads as it did. -/
def undoFreeSpec : ChangeSpec := { name := "undoFree", fn := fun _ => fun
  | [d] => { results := [.lit (.bool true)], args := [d] }
  | _ => none }
def undoFreeRow : OpenClaim := { program := "ythfagbfllheneaa", sum := "d8a7d7f7af5b4f6b7fd130c83506c1a6cf98a886e5c4e0b302f6aae7e1049e11", func := "cardindex/cardindexlaw05.UndoFree", spec := "undoFree", inPlace := ["internal/bytealg.Compare", "slices.overlaps[[]byte]", "slices.overlaps[int]", "maps.clone"], unfollowed := true, recurses := true, apart := false }
def UndoFreeSaid : Prop := undoFreeRow.holds Try.pinned (OpenSpec.ofChange undoFreeSpec)

/-- ITS FALSE NEIGHBOUR: 'it returns false'. Refute it at one input. -/
def undoFreeWrong : ChangeSpec := { name := "undoFree", fn := fun _ => fun
  | [d] => { results := [.lit (.bool false)], args := [d] }
  | _ => none }
def UndoFreeWrongFalsely : Prop := undoFreeRow.holds Try.pinned (OpenSpec.ofChange undoFreeWrong)

/-- 'cardindexlaw05.UndoNested': WHATEVER THE INPUT: true; the input reads as it did. -/
def undoNestedSpec : ChangeSpec := { name := "undoNested", fn := fun _ => fun
  | [d1, d2] => { results := [.lit (.bool true)], args := [d1, d2] }
  | _ => none }
def undoNestedRow : OpenClaim := { program := "ythfagbfllheneaa", sum := "d8a7d7f7af5b4f6b7fd130c83506c1a6cf98a886e5c4e0b302f6aae7e1049e11", func := "cardindex/cardindexlaw05.UndoNested", spec := "undoNested", inPlace := ["maps.clone", "internal/bytealg.Compare", "slices.overlaps[[]byte]", "slices.overlaps[int]"], unfollowed := true, recurses := true, apart := false }
def UndoNestedSaid : Prop := undoNestedRow.holds Try.pinned (OpenSpec.ofChange undoNestedSpec)

/-- ITS FALSE NEIGHBOUR: 'it returns false'. Refute it at one input. -/
def undoNestedWrong : ChangeSpec := { name := "undoNested", fn := fun _ => fun
  | [d1, d2] => { results := [.lit (.bool false)], args := [d1, d2] }
  | _ => none }
def UndoNestedWrongFalsely : Prop := undoNestedRow.holds Try.pinned (OpenSpec.ofChange undoNestedWrong)

/-- 'cardindexlaw05.UndoAgain': WHATEVER THE INPUT: true; the input reads as it did. -/
def undoAgainSpec : ChangeSpec := { name := "undoAgain", fn := fun _ => fun
  | [d1, d2] => { results := [.lit (.bool true)], args := [d1, d2] }
  | _ => none }
def undoAgainRow : OpenClaim := { program := "ythfagbfllheneaa", sum := "d8a7d7f7af5b4f6b7fd130c83506c1a6cf98a886e5c4e0b302f6aae7e1049e11", func := "cardindex/cardindexlaw05.UndoAgain", spec := "undoAgain", inPlace := ["internal/bytealg.Compare", "slices.overlaps[[]byte]", "slices.overlaps[int]", "maps.clone"], unfollowed := true, recurses := true, apart := false }
def UndoAgainSaid : Prop := undoAgainRow.holds Try.pinned (OpenSpec.ofChange undoAgainSpec)

/-- ITS FALSE NEIGHBOUR: 'it returns false'. Refute it at one input. -/
def undoAgainWrong : ChangeSpec := { name := "undoAgain", fn := fun _ => fun
  | [d1, d2] => { results := [.lit (.bool false)], args := [d1, d2] }
  | _ => none }
def UndoAgainWrongFalsely : Prop := undoAgainRow.holds Try.pinned (OpenSpec.ofChange undoAgainWrong)

/-- 'cardindexlaw05.UndoNumbers': WHATEVER THE INPUT: true; the input reads as it did. -/
def undoNumbersSpec : ChangeSpec := { name := "undoNumbers", fn := fun _ => fun
  | [] => { results := [.lit (.bool true)], args := [] }
  | _ => none }
def undoNumbersRow : OpenClaim := { program := "ythfagbfllheneaa", sum := "d8a7d7f7af5b4f6b7fd130c83506c1a6cf98a886e5c4e0b302f6aae7e1049e11", func := "cardindex/cardindexlaw05.UndoNumbers", spec := "undoNumbers", inPlace := ["maps.clone", "internal/bytealg.Compare", "slices.overlaps[[]byte]", "slices.overlaps[int]"], unfollowed := true, recurses := true, apart := false }
def UndoNumbersSaid : Prop := undoNumbersRow.holds Try.pinned (OpenSpec.ofChange undoNumbersSpec)

/-- ITS FALSE NEIGHBOUR: 'it returns false'. Refute it at one input. -/
def undoNumbersWrong : ChangeSpec := { name := "undoNumbers", fn := fun _ => fun
  | [] => { results := [.lit (.bool false)], args := [] }
  | _ => none }
def UndoNumbersWrongFalsely : Prop := undoNumbersRow.holds Try.pinned (OpenSpec.ofChange undoNumbersWrong)

/-- 'cardindexlaw05.UndoBack': WHATEVER THE INPUT: true; the input reads as it did. -/
def undoBackSpec : ChangeSpec := { name := "undoBack", fn := fun _ => fun
  | [d1, d2, d3] => { results := [.lit (.bool true)], args := [d1, d2, d3] }
  | _ => none }
def undoBackRow : OpenClaim := { program := "ythfagbfllheneaa", sum := "d8a7d7f7af5b4f6b7fd130c83506c1a6cf98a886e5c4e0b302f6aae7e1049e11", func := "cardindex/cardindexlaw05.UndoBack", spec := "undoBack", inPlace := ["internal/bytealg.Compare", "slices.overlaps[[]byte]", "slices.overlaps[int]", "maps.clone"], unfollowed := true, recurses := true, apart := false }
def UndoBackSaid : Prop := undoBackRow.holds Try.pinned (OpenSpec.ofChange undoBackSpec)

/-- ITS FALSE NEIGHBOUR: 'it returns false'. Refute it at one input. -/
def undoBackWrong : ChangeSpec := { name := "undoBack", fn := fun _ => fun
  | [d1, d2, d3] => { results := [.lit (.bool false)], args := [d1, d2, d3] }
  | _ => none }
def UndoBackWrongFalsely : Prop := undoBackRow.holds Try.pinned (OpenSpec.ofChange undoBackWrong)

/-- 'cardindexlaw05.UndoPlays': WHATEVER THE INPUT: true; the input reads as it did. -/
def undoPlaysSpec : ChangeSpec := { name := "undoPlays", fn := fun _ => fun
  | [d1, d2, d3] => { results := [.lit (.bool true)], args := [d1, d2, d3] }
  | _ => none }
def undoPlaysRow : OpenClaim := { program := "ythfagbfllheneaa", sum := "d8a7d7f7af5b4f6b7fd130c83506c1a6cf98a886e5c4e0b302f6aae7e1049e11", func := "cardindex/cardindexlaw05.UndoPlays", spec := "undoPlays", inPlace := ["internal/bytealg.Compare", "slices.overlaps[[]byte]", "slices.overlaps[int]", "maps.clone"], unfollowed := true, recurses := true, apart := false }
def UndoPlaysSaid : Prop := undoPlaysRow.holds Try.pinned (OpenSpec.ofChange undoPlaysSpec)

/-- ITS FALSE NEIGHBOUR: 'it returns false'. Refute it at one input. -/
def undoPlaysWrong : ChangeSpec := { name := "undoPlays", fn := fun _ => fun
  | [d1, d2, d3] => { results := [.lit (.bool false)], args := [d1, d2, d3] }
  | _ => none }
def UndoPlaysWrongFalsely : Prop := undoPlaysRow.holds Try.pinned (OpenSpec.ofChange undoPlaysWrong)

/-- 'cardindexlaw05.UndoNone': WHATEVER THE INPUT: true; the input reads as it did. -/
def undoNoneSpec : ChangeSpec := { name := "undoNone", fn := fun _ => fun
  | [d1, d2, d3, d4] => { results := [.lit (.bool true)], args := [d1, d2, d3, d4] }
  | _ => none }
def undoNoneRow : OpenClaim := { program := "ythfagbfllheneaa", sum := "d8a7d7f7af5b4f6b7fd130c83506c1a6cf98a886e5c4e0b302f6aae7e1049e11", func := "cardindex/cardindexlaw05.UndoNone", spec := "undoNone", inPlace := ["internal/bytealg.Compare", "slices.overlaps[[]byte]", "slices.overlaps[int]", "maps.clone"], unfollowed := true, recurses := true, apart := false }
def UndoNoneSaid : Prop := undoNoneRow.holds Try.pinned (OpenSpec.ofChange undoNoneSpec)

/-- ITS FALSE NEIGHBOUR: 'it returns false'. Refute it at one input. -/
def undoNoneWrong : ChangeSpec := { name := "undoNone", fn := fun _ => fun
  | [d1, d2, d3, d4] => { results := [.lit (.bool false)], args := [d1, d2, d3, d4] }
  | _ => none }
def UndoNoneWrongFalsely : Prop := undoNoneRow.holds Try.pinned (OpenSpec.ofChange undoNoneWrong)

/-- 'cardindexlaw06.CursorSeeks': WHATEVER THE INPUT: true; the input reads as it did. -/
def cursorSeeksSpec : ChangeSpec := { name := "cursorSeeks", fn := fun _ => fun
  | [d1, d2] => { results := [.lit (.bool true)], args := [d1, d2] }
  | _ => none }
def cursorSeeksRow : OpenClaim := { program := "ythfagbfllheneaa", sum := "d8a7d7f7af5b4f6b7fd130c83506c1a6cf98a886e5c4e0b302f6aae7e1049e11", func := "cardindex/cardindexlaw06.CursorSeeks", spec := "cursorSeeks", inPlace := ["internal/bytealg.Compare", "slices.overlaps[[]byte]", "slices.overlaps[int]", "maps.clone"], unfollowed := true, recurses := true, apart := false }
def CursorSeeksSaid : Prop := cursorSeeksRow.holds Try.pinned (OpenSpec.ofChange cursorSeeksSpec)

/-- ITS FALSE NEIGHBOUR: 'it returns false'. Refute it at one input. -/
def cursorSeeksWrong : ChangeSpec := { name := "cursorSeeks", fn := fun _ => fun
  | [d1, d2] => { results := [.lit (.bool false)], args := [d1, d2] }
  | _ => none }
def CursorSeeksWrongFalsely : Prop := cursorSeeksRow.holds Try.pinned (OpenSpec.ofChange cursorSeeksWrong)

/-- 'cardindexlaw06.CursorNone': WHATEVER THE INPUT: true; the input reads as it did. -/
def cursorNoneSpec : ChangeSpec := { name := "cursorNone", fn := fun _ => fun
  | [d1, d2, d3] => { results := [.lit (.bool true)], args := [d1, d2, d3] }
  | _ => none }
def cursorNoneRow : OpenClaim := { program := "ythfagbfllheneaa", sum := "d8a7d7f7af5b4f6b7fd130c83506c1a6cf98a886e5c4e0b302f6aae7e1049e11", func := "cardindex/cardindexlaw06.CursorNone", spec := "cursorNone", inPlace := ["internal/bytealg.Compare", "slices.overlaps[[]byte]", "slices.overlaps[int]", "maps.clone"], unfollowed := true, recurses := true, apart := false }
def CursorNoneSaid : Prop := cursorNoneRow.holds Try.pinned (OpenSpec.ofChange cursorNoneSpec)

/-- ITS FALSE NEIGHBOUR: 'it returns false'. Refute it at one input. -/
def cursorNoneWrong : ChangeSpec := { name := "cursorNone", fn := fun _ => fun
  | [d1, d2, d3] => { results := [.lit (.bool false)], args := [d1, d2, d3] }
  | _ => none }
def CursorNoneWrongFalsely : Prop := cursorNoneRow.holds Try.pinned (OpenSpec.ofChange cursorNoneWrong)

/-- 'cardindexlaw06.CursorWalks': WHATEVER THE INPUT: true; the input reads as it did. -/
def cursorWalksSpec : ChangeSpec := { name := "cursorWalks", fn := fun _ => fun
  | [d1, d2] => { results := [.lit (.bool true)], args := [d1, d2] }
  | _ => none }
def cursorWalksRow : OpenClaim := { program := "ythfagbfllheneaa", sum := "d8a7d7f7af5b4f6b7fd130c83506c1a6cf98a886e5c4e0b302f6aae7e1049e11", func := "cardindex/cardindexlaw06.CursorWalks", spec := "cursorWalks", inPlace := ["internal/bytealg.Compare", "slices.overlaps[[]byte]", "slices.overlaps[int]", "maps.clone"], unfollowed := true, recurses := true, apart := false }
def CursorWalksSaid : Prop := cursorWalksRow.holds Try.pinned (OpenSpec.ofChange cursorWalksSpec)

/-- ITS FALSE NEIGHBOUR: 'it returns false'. Refute it at one input. -/
def cursorWalksWrong : ChangeSpec := { name := "cursorWalks", fn := fun _ => fun
  | [d1, d2] => { results := [.lit (.bool false)], args := [d1, d2] }
  | _ => none }
def CursorWalksWrongFalsely : Prop := cursorWalksRow.holds Try.pinned (OpenSpec.ofChange cursorWalksWrong)

/-- 'cardindexlaw06.CursorEmpties': WHATEVER THE INPUT: true; the input reads as it did. -/
def cursorEmptiesSpec : ChangeSpec := { name := "cursorEmpties", fn := fun _ => fun
  | [d1, d2, d3] => { results := [.lit (.bool true)], args := [d1, d2, d3] }
  | _ => none }
def cursorEmptiesRow : OpenClaim := { program := "ythfagbfllheneaa", sum := "d8a7d7f7af5b4f6b7fd130c83506c1a6cf98a886e5c4e0b302f6aae7e1049e11", func := "cardindex/cardindexlaw06.CursorEmpties", spec := "cursorEmpties", inPlace := ["internal/bytealg.Compare", "slices.overlaps[[]byte]", "slices.overlaps[int]", "maps.clone"], unfollowed := true, recurses := true, apart := false }
def CursorEmptiesSaid : Prop := cursorEmptiesRow.holds Try.pinned (OpenSpec.ofChange cursorEmptiesSpec)

/-- ITS FALSE NEIGHBOUR: 'it returns false'. Refute it at one input. -/
def cursorEmptiesWrong : ChangeSpec := { name := "cursorEmpties", fn := fun _ => fun
  | [d1, d2, d3] => { results := [.lit (.bool false)], args := [d1, d2, d3] }
  | _ => none }
def CursorEmptiesWrongFalsely : Prop := cursorEmptiesRow.holds Try.pinned (OpenSpec.ofChange cursorEmptiesWrong)

/-- 'cardindexlaw06.CursorApart': WHATEVER THE INPUT: true; the input reads as it did. -/
def cursorApartSpec : ChangeSpec := { name := "cursorApart", fn := fun _ => fun
  | [d1, d2] => { results := [.lit (.bool true)], args := [d1, d2] }
  | _ => none }
def cursorApartRow : OpenClaim := { program := "ythfagbfllheneaa", sum := "d8a7d7f7af5b4f6b7fd130c83506c1a6cf98a886e5c4e0b302f6aae7e1049e11", func := "cardindex/cardindexlaw06.CursorApart", spec := "cursorApart", inPlace := ["internal/bytealg.Compare", "slices.overlaps[[]byte]", "slices.overlaps[int]", "maps.clone"], unfollowed := true, recurses := true, apart := false }
def CursorApartSaid : Prop := cursorApartRow.holds Try.pinned (OpenSpec.ofChange cursorApartSpec)

/-- ITS FALSE NEIGHBOUR: 'it returns false'. Refute it at one input. -/
def cursorApartWrong : ChangeSpec := { name := "cursorApart", fn := fun _ => fun
  | [d1, d2] => { results := [.lit (.bool false)], args := [d1, d2] }
  | _ => none }
def CursorApartWrongFalsely : Prop := cursorApartRow.holds Try.pinned (OpenSpec.ofChange cursorApartWrong)

/- THE SECOND FORM. 'bulk': how many values and letters a reading holds, each counted each time it is reached (what is shared counts as often as it is met; a slice's spare places count too). A statement '..UptoSaid' is the law's where the arguments, and the package variables that the reading takes, are together of bulk at most 1048576: NARROWER than '..Said'. Prove '..Said' where nothing that the law and all that it calls make is longer than what came in: it says more and counts as full. Else prove '..UptoSaid'. A law counts once. -/
mutual
def uptoBulk {H : Type} : DataW H → Nat
  | .lit (.string bytes) => bytes.length + 1
  | .lit _ => 1
  | .nil => 1
  | .ptr d => uptoBulk d + 1
  | .slice elems spare => uptoBulkAll elems + uptoBulkAll spare + 1
  | .agg parts => uptoBulkAll parts + 1
  | .iface _ d => uptoBulk d + 1
  | .map entries => uptoBulkEntries entries + 1
  | .held _ => 1
def uptoBulkAll {H : Type} : List (DataW H) → Nat
  | [] => 0
  | d :: r => uptoBulk d + uptoBulkAll r
def uptoBulkEntries {H : Type} : List (Lit × DataW H) → Nat
  | [] => 0
  | x :: r => uptoBulkEntry x + uptoBulkEntries r
def uptoBulkEntry {H : Type} : Lit × DataW H → Nat
  | (.string bytes, d) => bytes.length + uptoBulk d + 1
  | (_, d) => uptoBulk d + 1
 end
def uptoSmall : (H : Type) → List (DataW H) → Bool := fun _ ds => decide (uptoBulkAll ds ≤ 1048576)
def OpenSpec.upto (s : _root_.Go.ChangeSpec) : _root_.Go.OpenSpec := { _root_.Go.OpenSpec.ofChange s with cond := some uptoSmall }

/-- 'cardindexlaw05.UndoFree', WHERE WHAT IT READS IS OF BULK AT MOST 1048576: true; the input reads as it did. -/
def undoFreeUptoRow : OpenClaim := { program := "ythfagbfllheneaa", sum := "d8a7d7f7af5b4f6b7fd130c83506c1a6cf98a886e5c4e0b302f6aae7e1049e11", func := "cardindex/cardindexlaw05.UndoFree", spec := "undoFree", inPlace := ["internal/bytealg.Compare", "slices.overlaps[[]byte]", "slices.overlaps[int]", "maps.clone"], unfollowed := true, recurses := true, apart := false, narrowed := true }
def UndoFreeUptoSaid : Prop := undoFreeUptoRow.holds Try.pinned (OpenSpec.upto undoFreeSpec)

/-- 'cardindexlaw05.UndoNested', WHERE WHAT IT READS IS OF BULK AT MOST 1048576: true; the input reads as it did. -/
def undoNestedUptoRow : OpenClaim := { program := "ythfagbfllheneaa", sum := "d8a7d7f7af5b4f6b7fd130c83506c1a6cf98a886e5c4e0b302f6aae7e1049e11", func := "cardindex/cardindexlaw05.UndoNested", spec := "undoNested", inPlace := ["maps.clone", "internal/bytealg.Compare", "slices.overlaps[[]byte]", "slices.overlaps[int]"], unfollowed := true, recurses := true, apart := false, narrowed := true }
def UndoNestedUptoSaid : Prop := undoNestedUptoRow.holds Try.pinned (OpenSpec.upto undoNestedSpec)

/-- 'cardindexlaw05.UndoAgain', WHERE WHAT IT READS IS OF BULK AT MOST 1048576: true; the input reads as it did. -/
def undoAgainUptoRow : OpenClaim := { program := "ythfagbfllheneaa", sum := "d8a7d7f7af5b4f6b7fd130c83506c1a6cf98a886e5c4e0b302f6aae7e1049e11", func := "cardindex/cardindexlaw05.UndoAgain", spec := "undoAgain", inPlace := ["internal/bytealg.Compare", "slices.overlaps[[]byte]", "slices.overlaps[int]", "maps.clone"], unfollowed := true, recurses := true, apart := false, narrowed := true }
def UndoAgainUptoSaid : Prop := undoAgainUptoRow.holds Try.pinned (OpenSpec.upto undoAgainSpec)

/-- 'cardindexlaw05.UndoNumbers', WHERE WHAT IT READS IS OF BULK AT MOST 1048576: true; the input reads as it did. -/
def undoNumbersUptoRow : OpenClaim := { program := "ythfagbfllheneaa", sum := "d8a7d7f7af5b4f6b7fd130c83506c1a6cf98a886e5c4e0b302f6aae7e1049e11", func := "cardindex/cardindexlaw05.UndoNumbers", spec := "undoNumbers", inPlace := ["maps.clone", "internal/bytealg.Compare", "slices.overlaps[[]byte]", "slices.overlaps[int]"], unfollowed := true, recurses := true, apart := false, narrowed := true }
def UndoNumbersUptoSaid : Prop := undoNumbersUptoRow.holds Try.pinned (OpenSpec.upto undoNumbersSpec)

/-- 'cardindexlaw05.UndoBack', WHERE WHAT IT READS IS OF BULK AT MOST 1048576: true; the input reads as it did. -/
def undoBackUptoRow : OpenClaim := { program := "ythfagbfllheneaa", sum := "d8a7d7f7af5b4f6b7fd130c83506c1a6cf98a886e5c4e0b302f6aae7e1049e11", func := "cardindex/cardindexlaw05.UndoBack", spec := "undoBack", inPlace := ["internal/bytealg.Compare", "slices.overlaps[[]byte]", "slices.overlaps[int]", "maps.clone"], unfollowed := true, recurses := true, apart := false, narrowed := true }
def UndoBackUptoSaid : Prop := undoBackUptoRow.holds Try.pinned (OpenSpec.upto undoBackSpec)

/-- 'cardindexlaw05.UndoPlays', WHERE WHAT IT READS IS OF BULK AT MOST 1048576: true; the input reads as it did. -/
def undoPlaysUptoRow : OpenClaim := { program := "ythfagbfllheneaa", sum := "d8a7d7f7af5b4f6b7fd130c83506c1a6cf98a886e5c4e0b302f6aae7e1049e11", func := "cardindex/cardindexlaw05.UndoPlays", spec := "undoPlays", inPlace := ["internal/bytealg.Compare", "slices.overlaps[[]byte]", "slices.overlaps[int]", "maps.clone"], unfollowed := true, recurses := true, apart := false, narrowed := true }
def UndoPlaysUptoSaid : Prop := undoPlaysUptoRow.holds Try.pinned (OpenSpec.upto undoPlaysSpec)

/-- 'cardindexlaw05.UndoNone', WHERE WHAT IT READS IS OF BULK AT MOST 1048576: true; the input reads as it did. -/
def undoNoneUptoRow : OpenClaim := { program := "ythfagbfllheneaa", sum := "d8a7d7f7af5b4f6b7fd130c83506c1a6cf98a886e5c4e0b302f6aae7e1049e11", func := "cardindex/cardindexlaw05.UndoNone", spec := "undoNone", inPlace := ["internal/bytealg.Compare", "slices.overlaps[[]byte]", "slices.overlaps[int]", "maps.clone"], unfollowed := true, recurses := true, apart := false, narrowed := true }
def UndoNoneUptoSaid : Prop := undoNoneUptoRow.holds Try.pinned (OpenSpec.upto undoNoneSpec)

/-- 'cardindexlaw06.CursorSeeks', WHERE WHAT IT READS IS OF BULK AT MOST 1048576: true; the input reads as it did. -/
def cursorSeeksUptoRow : OpenClaim := { program := "ythfagbfllheneaa", sum := "d8a7d7f7af5b4f6b7fd130c83506c1a6cf98a886e5c4e0b302f6aae7e1049e11", func := "cardindex/cardindexlaw06.CursorSeeks", spec := "cursorSeeks", inPlace := ["internal/bytealg.Compare", "slices.overlaps[[]byte]", "slices.overlaps[int]", "maps.clone"], unfollowed := true, recurses := true, apart := false, narrowed := true }
def CursorSeeksUptoSaid : Prop := cursorSeeksUptoRow.holds Try.pinned (OpenSpec.upto cursorSeeksSpec)

/-- 'cardindexlaw06.CursorNone', WHERE WHAT IT READS IS OF BULK AT MOST 1048576: true; the input reads as it did. -/
def cursorNoneUptoRow : OpenClaim := { program := "ythfagbfllheneaa", sum := "d8a7d7f7af5b4f6b7fd130c83506c1a6cf98a886e5c4e0b302f6aae7e1049e11", func := "cardindex/cardindexlaw06.CursorNone", spec := "cursorNone", inPlace := ["internal/bytealg.Compare", "slices.overlaps[[]byte]", "slices.overlaps[int]", "maps.clone"], unfollowed := true, recurses := true, apart := false, narrowed := true }
def CursorNoneUptoSaid : Prop := cursorNoneUptoRow.holds Try.pinned (OpenSpec.upto cursorNoneSpec)

/-- 'cardindexlaw06.CursorWalks', WHERE WHAT IT READS IS OF BULK AT MOST 1048576: true; the input reads as it did. -/
def cursorWalksUptoRow : OpenClaim := { program := "ythfagbfllheneaa", sum := "d8a7d7f7af5b4f6b7fd130c83506c1a6cf98a886e5c4e0b302f6aae7e1049e11", func := "cardindex/cardindexlaw06.CursorWalks", spec := "cursorWalks", inPlace := ["internal/bytealg.Compare", "slices.overlaps[[]byte]", "slices.overlaps[int]", "maps.clone"], unfollowed := true, recurses := true, apart := false, narrowed := true }
def CursorWalksUptoSaid : Prop := cursorWalksUptoRow.holds Try.pinned (OpenSpec.upto cursorWalksSpec)

/-- 'cardindexlaw06.CursorEmpties', WHERE WHAT IT READS IS OF BULK AT MOST 1048576: true; the input reads as it did. -/
def cursorEmptiesUptoRow : OpenClaim := { program := "ythfagbfllheneaa", sum := "d8a7d7f7af5b4f6b7fd130c83506c1a6cf98a886e5c4e0b302f6aae7e1049e11", func := "cardindex/cardindexlaw06.CursorEmpties", spec := "cursorEmpties", inPlace := ["internal/bytealg.Compare", "slices.overlaps[[]byte]", "slices.overlaps[int]", "maps.clone"], unfollowed := true, recurses := true, apart := false, narrowed := true }
def CursorEmptiesUptoSaid : Prop := cursorEmptiesUptoRow.holds Try.pinned (OpenSpec.upto cursorEmptiesSpec)

/-- 'cardindexlaw06.CursorApart', WHERE WHAT IT READS IS OF BULK AT MOST 1048576: true; the input reads as it did. -/
def cursorApartUptoRow : OpenClaim := { program := "ythfagbfllheneaa", sum := "d8a7d7f7af5b4f6b7fd130c83506c1a6cf98a886e5c4e0b302f6aae7e1049e11", func := "cardindex/cardindexlaw06.CursorApart", spec := "cursorApart", inPlace := ["internal/bytealg.Compare", "slices.overlaps[[]byte]", "slices.overlaps[int]", "maps.clone"], unfollowed := true, recurses := true, apart := false, narrowed := true }
def CursorApartUptoSaid : Prop := cursorApartUptoRow.holds Try.pinned (OpenSpec.upto cursorApartSpec)

end Rows
end Go.Proofs.Ythfagbfllheneaa
