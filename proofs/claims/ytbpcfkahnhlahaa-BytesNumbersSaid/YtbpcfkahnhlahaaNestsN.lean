/- The preconditions of Go functions, printed by a program of this workplace (nests.py); each is proved to be the engine's own. -/
import Derived.Test.YtbpcfkahnhlahaaProg
import Derived.Test.YtbpcfkahnhlahaaSxWp
set_option linter.unusedVariables false
set_option maxRecDepth 100000
namespace Go.Proofs.Ytbpcfkahnhlahaa
open Go Go.Sx
noncomputable def cardindexlaw01_BytesNumbers.W : World → (Value → World → Prop) → Prop := fun (w : Go.World) (K : Go.Value → Go.World → Prop) => ∃ (I : ByteArray → ByteArray → Int → Go.World → Prop),
 ∃ (μ : ByteArray → ByteArray → Int → Go.World → Nat), I (ByteArray.mk #[(1 : UInt8)]) (ByteArray.mk #[(127 : UInt8)]) (1 : Int) w ∧ ∀ (x x_1 : ByteArray) (x_2 : Int) (w : Go.World), I x x_1 x_2 w → bif
 Decidable.decide (x_2 < (10 : Int)) then ∃ (S : Go.World → Prop), S (Go.World.drew w) ∧ (0 : Int) ≤ Go.IntKind.wrap Go.IntKind.i64 ((7 : Int) * x_2) ∧ (0 : Int) ≤ Go.IntKind.wrap Go.IntKind.i64 ((7 :
 Int) * x_2) ∧ ByteArray.size (ByteArray.mk #[(128 : UInt8)]) + ByteArray.size x ≤ (9223372036854775807 : Nat) ∧ ∃ (S' : Go.World → Prop), (∀ (u : Go.World), S' u → S u) ∧ S' (Go.World.alloc
 (Go.World.drew w) (Go.Obj.cells #[Go.Value.int Go.IntKind.u64 (Go.IntKind.wrap Go.IntKind.u64 (Go.IntKind.wrap Go.IntKind.u64 ((1 : Int) * (2 : Int) ^ Min.min (Int.toNat (Go.IntKind.wrap Go.IntKind.i64
 ((7 : Int) * x_2))) (64 : Nat)) - (1 : Int))), Go.Value.string x_1, Go.Value.int Go.IntKind.u64 (Go.IntKind.wrap Go.IntKind.u64 ((1 : Int) * (2 : Int) ^ Min.min (Int.toNat (Go.IntKind.wrap
 Go.IntKind.i64 ((7 : Int) * x_2))) (64 : Nat))), Go.Value.string (ByteArray.mk #[(128 : UInt8)] ++ x)] (25 : Nat))) ∧ Go.Sx.CallsV Go.Proofs.Try.prog (10 : Nat) #[Go.Value.slice (Option.some
 (Go.Addr.mk (Array.size (Go.World.heap (Go.World.drew w))) (0 : Nat) Option.none)) (2 : Nat) (2 : Nat)] (Go.World.alloc (Go.World.drew w) (Go.Obj.cells #[Go.Value.int Go.IntKind.u64 (Go.IntKind.wrap
 Go.IntKind.u64 (Go.IntKind.wrap Go.IntKind.u64 ((1 : Int) * (2 : Int) ^ Min.min (Int.toNat (Go.IntKind.wrap Go.IntKind.i64 ((7 : Int) * x_2))) (64 : Nat)) - (1 : Int))), Go.Value.string x_1,
 Go.Value.int Go.IntKind.u64 (Go.IntKind.wrap Go.IntKind.u64 ((1 : Int) * (2 : Int) ^ Min.min (Int.toNat (Go.IntKind.wrap Go.IntKind.i64 ((7 : Int) * x_2))) (64 : Nat))), Go.Value.string (ByteArray.mk
 #[(128 : UInt8)] ++ x)] (25 : Nat))) fun (v : Go.Value) (w' : Go.World) => ∃ (x_3 : Bool), v = Go.Value.bool x_3 ∧ ∃ (S'_1 : Go.World → Prop), (∀ (u : Go.World), S'_1 u → S' u) ∧ S'_1 w' ∧ bif !x_3
 then K (Go.Value.bool Bool.false) w' else ByteArray.size (ByteArray.mk #[(128 : UInt8)]) + ByteArray.size x ≤ (9223372036854775807 : Nat) ∧ ByteArray.size (ByteArray.mk #[(255 : UInt8)]) +
 ByteArray.size x_1 ≤ (9223372036854775807 : Nat) ∧ I (ByteArray.mk #[(128 : UInt8)] ++ x) (ByteArray.mk #[(255 : UInt8)] ++ x_1) (Go.IntKind.wrap Go.IntKind.i64 (x_2 + (1 : Int))) w' ∧ μ (ByteArray.mk
 #[(128 : UInt8)] ++ x) (ByteArray.mk #[(255 : UInt8)] ++ x_1) (Go.IntKind.wrap Go.IntKind.i64 (x_2 + (1 : Int))) w' < μ x x_1 x_2 w else ByteArray.size (ByteArray.mk #[(255 : UInt8), (255 : UInt8),
 (255 : UInt8), (255 : UInt8), (255 : UInt8), (255 : UInt8), (255 : UInt8), (255 : UInt8), (255 : UInt8)]) + ByteArray.size (ByteArray.mk #[(1 : UInt8)]) ≤ (9223372036854775807 : Nat) ∧ Go.Sx.CallsV
 Go.Proofs.Try.prog (10 : Nat) #[Go.Value.slice (Option.some (Go.Addr.mk (Array.size (Go.World.heap w)) (0 : Nat) Option.none)) (1 : Nat) (1 : Nat)] (Go.World.alloc w (Go.Obj.cells #[Go.Value.int
 Go.IntKind.u64 (18446744073709551615 : Int), Go.Value.string (ByteArray.mk #[(255 : UInt8), (255 : UInt8), (255 : UInt8), (255 : UInt8), (255 : UInt8), (255 : UInt8), (255 : UInt8), (255 : UInt8), (255
 : UInt8)] ++ ByteArray.mk #[(1 : UInt8)])] (25 : Nat))) fun (v : Go.Value) (w' : Go.World) => ∃ (x : Bool), v = Go.Value.bool x ∧ bif !x then K (Go.Value.bool Bool.false) w' else ByteArray.size
 (ByteArray.mk #[(255 : UInt8), (255 : UInt8), (255 : UInt8), (255 : UInt8), (255 : UInt8), (255 : UInt8), (255 : UInt8), (255 : UInt8), (255 : UInt8)]) + ByteArray.size (ByteArray.mk #[(2 : UInt8)]) ≤
 (9223372036854775807 : Nat) ∧ Go.Sx.CallsV Go.Proofs.Try.prog (11 : Nat) #[Go.Value.string (ByteArray.mk #[(255 : UInt8), (255 : UInt8), (255 : UInt8), (255 : UInt8), (255 : UInt8), (255 : UInt8), (255
 : UInt8), (255 : UInt8), (255 : UInt8)] ++ ByteArray.mk #[(2 : UInt8)]), Go.Value.int Go.IntKind.i64 (0 : Int)] w' fun (v : Go.Value) (w' : Go.World) => ∃ (x : Int), v = Go.Value.int Go.IntKind.i64 x ∧
 bif !Decidable.decide (x = (10 : Int)) then K (Go.Value.bool Bool.false) w' else ByteArray.size (ByteArray.mk #[(255 : UInt8), (255 : UInt8), (255 : UInt8), (255 : UInt8), (255 : UInt8), (255 : UInt8),
 (255 : UInt8), (255 : UInt8), (255 : UInt8)]) + ByteArray.size (ByteArray.mk #[(127 : UInt8)]) ≤ (9223372036854775807 : Nat) ∧ Go.Sx.CallsV Go.Proofs.Try.prog (11 : Nat) #[Go.Value.string (ByteArray.mk
 #[(255 : UInt8), (255 : UInt8), (255 : UInt8), (255 : UInt8), (255 : UInt8), (255 : UInt8), (255 : UInt8), (255 : UInt8), (255 : UInt8)] ++ ByteArray.mk #[(127 : UInt8)]), Go.Value.int Go.IntKind.i64
 (0 : Int)] w' fun (v : Go.Value) (w' : Go.World) => ∃ (x : Int), v = Go.Value.int Go.IntKind.i64 x ∧ bif !Decidable.decide (x = (10 : Int)) then K (Go.Value.bool Bool.false) w' else ByteArray.size
 (ByteArray.mk #[(255 : UInt8), (255 : UInt8), (255 : UInt8), (255 : UInt8), (255 : UInt8), (255 : UInt8), (255 : UInt8), (255 : UInt8), (255 : UInt8)]) + ByteArray.size (ByteArray.mk #[(129 : UInt8),
 (0 : UInt8)]) ≤ (9223372036854775807 : Nat) ∧ Go.Sx.CallsV Go.Proofs.Try.prog (11 : Nat) #[Go.Value.string (ByteArray.mk #[(255 : UInt8), (255 : UInt8), (255 : UInt8), (255 : UInt8), (255 : UInt8),
 (255 : UInt8), (255 : UInt8), (255 : UInt8), (255 : UInt8)] ++ ByteArray.mk #[(129 : UInt8), (0 : UInt8)]), Go.Value.int Go.IntKind.i64 (0 : Int)] w' fun (v : Go.Value) (w' : Go.World) => ∃ (x : Int),
 v = Go.Value.int Go.IntKind.i64 x ∧ bif !Decidable.decide (x = (10 : Int)) then K (Go.Value.bool Bool.false) w' else ByteArray.size (ByteArray.mk #[(255 : UInt8), (255 : UInt8), (255 : UInt8), (255 :
 UInt8), (255 : UInt8), (255 : UInt8), (255 : UInt8), (255 : UInt8), (255 : UInt8)]) + ByteArray.size (ByteArray.mk #[(129 : UInt8)]) ≤ (9223372036854775807 : Nat) ∧ Go.Sx.CallsV Go.Proofs.Try.prog (11
 : Nat) #[Go.Value.string (ByteArray.mk #[(255 : UInt8), (255 : UInt8), (255 : UInt8), (255 : UInt8), (255 : UInt8), (255 : UInt8), (255 : UInt8), (255 : UInt8), (255 : UInt8)] ++ ByteArray.mk #[(129 :
 UInt8)]), Go.Value.int Go.IntKind.i64 (0 : Int)] w' fun (v : Go.Value) (w' : Go.World) => ∃ (x : Int), v = Go.Value.int Go.IntKind.i64 x ∧ bif !Decidable.decide (x = (10 : Int)) then K (Go.Value.bool
 Bool.false) w' else ByteArray.size (ByteArray.mk #[(255 : UInt8), (255 : UInt8), (255 : UInt8), (255 : UInt8), (255 : UInt8), (255 : UInt8), (255 : UInt8), (255 : UInt8), (255 : UInt8)]) +
 ByteArray.size (ByteArray.mk #[(0 : UInt8)]) ≤ (9223372036854775807 : Nat) ∧ Go.Sx.CallsV Go.Proofs.Try.prog (11 : Nat) #[Go.Value.string (ByteArray.mk #[(255 : UInt8), (255 : UInt8), (255 : UInt8),
 (255 : UInt8), (255 : UInt8), (255 : UInt8), (255 : UInt8), (255 : UInt8), (255 : UInt8)] ++ ByteArray.mk #[(0 : UInt8)]), Go.Value.int Go.IntKind.i64 (0 : Int)] w' fun (v : Go.Value) (w' : Go.World)
 => ∃ (x : Int), v = Go.Value.int Go.IntKind.i64 x ∧ bif !Decidable.decide (x = (10 : Int)) then K (Go.Value.bool Bool.false) w' else Go.Sx.CallsV Go.Proofs.Try.prog (11 : Nat) #[Go.Value.string
 (ByteArray.mk #[(255 : UInt8), (255 : UInt8), (255 : UInt8), (255 : UInt8), (255 : UInt8), (255 : UInt8), (255 : UInt8), (255 : UInt8), (255 : UInt8)]), Go.Value.int Go.IntKind.i64 (0 : Int)] w' fun (v
 : Go.Value) (w' : Go.World) => ∃ (x : Int), v = Go.Value.int Go.IntKind.i64 x ∧ bif !Decidable.decide (x = (11 : Int)) then K (Go.Value.bool Bool.false) w' else Go.Sx.CallsV Go.Proofs.Try.prog (11 :
 Nat) #[Go.Value.string (ByteArray.mk #[]), Go.Value.int Go.IntKind.i64 (0 : Int)] w' fun (v : Go.Value) (w' : Go.World) => ∃ (x : Int), v = Go.Value.int Go.IntKind.i64 x ∧ bif !Decidable.decide (x =
 (11 : Int)) then K (Go.Value.bool Bool.false) w' else Go.Sx.CallsV Go.Proofs.Try.prog (11 : Nat) #[Go.Value.string (ByteArray.mk #[(97 : UInt8)]), Go.Value.int Go.IntKind.i64 (1 : Int)] w' fun (v :
 Go.Value) (w' : Go.World) => ∃ (x : Int), v = Go.Value.int Go.IntKind.i64 x ∧ bif !Decidable.decide (x = (11 : Int)) then K (Go.Value.bool Bool.false) w' else Go.Sx.CallsV Go.Proofs.Try.prog (11 : Nat)
 #[Go.Value.string (ByteArray.mk #[(97 : UInt8)]), Go.Value.int Go.IntKind.i64 (2 : Int)] w' fun (v : Go.Value) (w' : Go.World) => ∃ (x : Int), v = Go.Value.int Go.IntKind.i64 x ∧ bif !Decidable.decide
 (x = (2 : Int)) then K (Go.Value.bool Bool.false) w' else Go.Sx.CallsV Go.Proofs.Try.prog (11 : Nat) #[Go.Value.string (ByteArray.mk #[(97 : UInt8)]), Go.Value.int Go.IntKind.i64 (-1 : Int)] w' fun (v
 : Go.Value) (w' : Go.World) => ∃ (x : Int), v = Go.Value.int Go.IntKind.i64 x ∧ bif !Decidable.decide (x = (2 : Int)) then K (Go.Value.bool Bool.false) w' else ∃ (I : Option Go.Addr → Nat → Nat → Int →
 Go.World → Prop), ∃ (μ : Option Go.Addr → Nat → Nat → Int → Go.World → Nat), I Option.none (0 : Nat) (0 : Nat) (0 : Int) (Go.World.alloc w' (Go.Obj.cells #[Go.Value.string (ByteArray.mk #[(3 : UInt8),
 (97 : UInt8), (98 : UInt8)]), Go.Value.int Go.IntKind.i64 (-1 : Int), Go.Value.int Go.IntKind.i64 (3 : Int), Go.Value.string (ByteArray.mk #[(2 : UInt8), (97 : UInt8), (98 : UInt8)]), Go.Value.int
 Go.IntKind.i64 (-1 : Int), Go.Value.int Go.IntKind.i64 (1 : Int), Go.Value.string (ByteArray.mk #[(0 : UInt8)]), Go.Value.int Go.IntKind.i64 (-1 : Int), Go.Value.int Go.IntKind.i64 (-1 : Int),
 Go.Value.string (ByteArray.mk #[(2 : UInt8), (0 : UInt8)]), Go.Value.int Go.IntKind.i64 (2 : Int), Go.Value.int Go.IntKind.i64 (0 : Int), Go.Value.string (ByteArray.mk #[(1 : UInt8), (1 : UInt8), (97 :
 UInt8)]), Go.Value.int Go.IntKind.i64 (1 : Int), Go.Value.int Go.IntKind.i64 (0 : Int), Go.Value.string (ByteArray.mk #[(0 : UInt8)]), Go.Value.int Go.IntKind.i64 (-1 : Int), Go.Value.int
 Go.IntKind.i64 (0 : Int), Go.Value.string (ByteArray.mk #[(1 : UInt8), (128 : UInt8), (0 : UInt8)]), Go.Value.int Go.IntKind.i64 (1 : Int), Go.Value.int Go.IntKind.i64 (9 : Int), Go.Value.string
 (ByteArray.mk #[(128 : UInt8), (0 : UInt8)]), Go.Value.int Go.IntKind.i64 (9 : Int), Go.Value.int Go.IntKind.i64 (9 : Int)] (28 : Nat))) ∧ ∀ (x : Option Go.Addr) (x_3 x_4 : Nat) (x_5 : Int) (w :
 Go.World), I x x_3 x_4 x_5 w → bif Decidable.decide (x_5 < (↑(8 : Nat) : Int)) then ∃ (ad : Go.Addr), Option.some (Go.Addr.mk (Array.size (Go.World.heap w')) (0 : Nat) Option.none) = Option.some ad ∧
 ((0 : Int) ≤ x_5 ∧ x_5 < (↑(8 : Nat) : Int)) ∧ ∃ (x_6 : ByteArray), Go.World.cell? w (Go.Addr.add (Go.Addr.add ad (Int.toNat x_5 * (3 : Nat))) (0 : Nat)) = Option.some (Go.Value.string x_6) ∧ ∃ (x_7 :
 Int), Go.World.cell? w (Go.Addr.add (Go.Addr.add ad (Int.toNat x_5 * (3 : Nat))) ((0 : Nat) + (1 : Nat))) = Option.some (Go.Value.int Go.IntKind.i64 x_7) ∧ ∃ (x_8 : Int), Go.World.cell? w (Go.Addr.add
 (Go.Addr.add ad (Int.toNat x_5 * (3 : Nat))) ((0 : Nat) + (1 : Nat) + (1 : Nat))) = Option.some (Go.Value.int Go.IntKind.i64 x_8) ∧ (Option.isSome (Go.World.cell? (Go.World.alloc w (Go.Obj.cells
 #[Go.Value.string (ByteArray.mk #[]), Go.Value.int Go.IntKind.i64 (0 : Int), Go.Value.int Go.IntKind.i64 (0 : Int)] (28 : Nat))) (Go.Addr.add (Go.Addr.mk (Array.size (Go.World.heap w)) (0 : Nat)
 Option.none) (0 : Nat))) = Bool.true ∧ Go.World.frozen? (Go.World.alloc w (Go.Obj.cells #[Go.Value.string (ByteArray.mk #[]), Go.Value.int Go.IntKind.i64 (0 : Int), Go.Value.int Go.IntKind.i64 (0 :
 Int)] (28 : Nat))) (Go.Addr.add (Go.Addr.mk (Array.size (Go.World.heap w)) (0 : Nat) Option.none) (0 : Nat)) = Bool.false) ∧ (Option.isSome (Go.World.cell? (Go.World.setCell (Go.World.alloc w
 (Go.Obj.cells #[Go.Value.string (ByteArray.mk #[]), Go.Value.int Go.IntKind.i64 (0 : Int), Go.Value.int Go.IntKind.i64 (0 : Int)] (28 : Nat))) (Go.Addr.add (Go.Addr.mk (Array.size (Go.World.heap w)) (0
 : Nat) Option.none) (0 : Nat)) (Go.Value.string x_6)) (Go.Addr.add (Go.Addr.mk (Array.size (Go.World.heap w)) (0 : Nat) Option.none) ((0 : Nat) + (1 : Nat)))) = Bool.true ∧ Go.World.frozen?
 (Go.World.setCell (Go.World.alloc w (Go.Obj.cells #[Go.Value.string (ByteArray.mk #[]), Go.Value.int Go.IntKind.i64 (0 : Int), Go.Value.int Go.IntKind.i64 (0 : Int)] (28 : Nat))) (Go.Addr.add
 (Go.Addr.mk (Array.size (Go.World.heap w)) (0 : Nat) Option.none) (0 : Nat)) (Go.Value.string x_6)) (Go.Addr.add (Go.Addr.mk (Array.size (Go.World.heap w)) (0 : Nat) Option.none) ((0 : Nat) + (1 :
 Nat))) = Bool.false) ∧ (Option.isSome (Go.World.cell? (Go.World.setCell (Go.World.setCell (Go.World.alloc w (Go.Obj.cells #[Go.Value.string (ByteArray.mk #[]), Go.Value.int Go.IntKind.i64 (0 : Int),
 Go.Value.int Go.IntKind.i64 (0 : Int)] (28 : Nat))) (Go.Addr.add (Go.Addr.mk (Array.size (Go.World.heap w)) (0 : Nat) Option.none) (0 : Nat)) (Go.Value.string x_6)) (Go.Addr.add (Go.Addr.mk (Array.size
 (Go.World.heap w)) (0 : Nat) Option.none) ((0 : Nat) + (1 : Nat))) (Go.Value.int Go.IntKind.i64 x_7)) (Go.Addr.add (Go.Addr.mk (Array.size (Go.World.heap w)) (0 : Nat) Option.none) ((0 : Nat) + (1 :
 Nat) + (1 : Nat)))) = Bool.true ∧ Go.World.frozen? (Go.World.setCell (Go.World.setCell (Go.World.alloc w (Go.Obj.cells #[Go.Value.string (ByteArray.mk #[]), Go.Value.int Go.IntKind.i64 (0 : Int),
 Go.Value.int Go.IntKind.i64 (0 : Int)] (28 : Nat))) (Go.Addr.add (Go.Addr.mk (Array.size (Go.World.heap w)) (0 : Nat) Option.none) (0 : Nat)) (Go.Value.string x_6)) (Go.Addr.add (Go.Addr.mk (Array.size
 (Go.World.heap w)) (0 : Nat) Option.none) ((0 : Nat) + (1 : Nat))) (Go.Value.int Go.IntKind.i64 x_7)) (Go.Addr.add (Go.Addr.mk (Array.size (Go.World.heap w)) (0 : Nat) Option.none) ((0 : Nat) + (1 :
 Nat) + (1 : Nat))) = Bool.false) ∧ ∃ (x_9 : ByteArray), Go.World.cell? (Go.World.setCell (Go.World.setCell (Go.World.setCell (Go.World.alloc w (Go.Obj.cells #[Go.Value.string (ByteArray.mk #[]),
 Go.Value.int Go.IntKind.i64 (0 : Int), Go.Value.int Go.IntKind.i64 (0 : Int)] (28 : Nat))) (Go.Addr.add (Go.Addr.mk (Array.size (Go.World.heap w)) (0 : Nat) Option.none) (0 : Nat)) (Go.Value.string
 x_6)) (Go.Addr.add (Go.Addr.mk (Array.size (Go.World.heap w)) (0 : Nat) Option.none) ((0 : Nat) + (1 : Nat))) (Go.Value.int Go.IntKind.i64 x_7)) (Go.Addr.add (Go.Addr.mk (Array.size (Go.World.heap w))
 (0 : Nat) Option.none) ((0 : Nat) + (1 : Nat) + (1 : Nat))) (Go.Value.int Go.IntKind.i64 x_8)) (Go.Addr.add (Go.Addr.mk (Array.size (Go.World.heap w)) (0 : Nat) Option.none) (0 : Nat)) = Option.some
 (Go.Value.string x_9) ∧ ∃ (x_10 : Option Go.Addr), ∃ (x_11 : Nat), ∃ (x_12 : Nat), ∃ (w' : Go.World), Go.Sx.RunsTo Go.Proofs.Try.prog (Go.convert (9 : Nat) (30 : Nat) (Go.Value.string x_9))
 (Go.World.setCell (Go.World.setCell (Go.World.setCell (Go.World.alloc w (Go.Obj.cells #[Go.Value.string (ByteArray.mk #[]), Go.Value.int Go.IntKind.i64 (0 : Int), Go.Value.int Go.IntKind.i64 (0 : Int)]
 (28 : Nat))) (Go.Addr.add (Go.Addr.mk (Array.size (Go.World.heap w)) (0 : Nat) Option.none) (0 : Nat)) (Go.Value.string x_6)) (Go.Addr.add (Go.Addr.mk (Array.size (Go.World.heap w)) (0 : Nat)
 Option.none) ((0 : Nat) + (1 : Nat))) (Go.Value.int Go.IntKind.i64 x_7)) (Go.Addr.add (Go.Addr.mk (Array.size (Go.World.heap w)) (0 : Nat) Option.none) ((0 : Nat) + (1 : Nat) + (1 : Nat)))
 (Go.Value.int Go.IntKind.i64 x_8)) (Go.Value.slice x_10 x_11 x_12) w' ∧ ∃ (x_13 : Int), Go.World.cell? w' (Go.Addr.add (Go.Addr.mk (Array.size (Go.World.heap w)) (0 : Nat) Option.none) (2 : Nat)) =
 Option.some (Go.Value.int Go.IntKind.i64 x_13) ∧ Go.Sx.CallsV Go.Proofs.Try.prog (12 : Nat) #[Go.Value.slice x_10 x_11 x_12, Go.Value.int Go.IntKind.i64 (0 : Int), Go.Value.int Go.IntKind.i64 x_13] w'
 fun (v : Go.Value) (w' : Go.World) => ∃ (x_14 : Option Go.Addr), ∃ (x_15 : Nat), ∃ (x_16 : Nat), ∃ (x_17 : Int), ∃ (x_18 : Int), v = Go.Value.tuple #[Go.Value.slice x_14 x_15 x_16, Go.Value.int
 Go.IntKind.i64 x_17, Go.Value.int Go.IntKind.i64 x_18] ∧ ∃ (x_19 : ByteArray), Go.World.cell? w' (Go.Addr.add (Go.Addr.mk (Array.size (Go.World.heap w)) (0 : Nat) Option.none) (0 : Nat)) = Option.some
 (Go.Value.string x_19) ∧ ∃ (x_20 : Option Go.Addr), ∃ (x_21 : Nat), ∃ (x_22 : Nat), ∃ (w'_1 : Go.World), Go.Sx.RunsTo Go.Proofs.Try.prog (Go.convert (9 : Nat) (30 : Nat) (Go.Value.string x_19)) w'
 (Go.Value.slice x_20 x_21 x_22) w'_1 ∧ ∃ (x_23 : Int), Go.World.cell? w'_1 (Go.Addr.add (Go.Addr.mk (Array.size (Go.World.heap w)) (0 : Nat) Option.none) (1 : Nat)) = Option.some (Go.Value.int
 Go.IntKind.i64 x_23) ∧ ∃ (x_24 : Int), Go.World.cell? w'_1 (Go.Addr.add (Go.Addr.mk (Array.size (Go.World.heap w)) (0 : Nat) Option.none) (2 : Nat)) = Option.some (Go.Value.int Go.IntKind.i64 x_24) ∧
 Go.Sx.CallsV Go.Proofs.Try.prog (13 : Nat) #[Go.Value.slice x_20 x_21 x_22, Go.Value.int Go.IntKind.i64 (0 : Int), Go.Value.int Go.IntKind.i64 x_23, Go.Value.int Go.IntKind.i64 x_24] w'_1 fun (v :
 Go.Value) (w' : Go.World) => ∃ (x_25 : Option Go.Addr), ∃ (x_26 : Nat), ∃ (x_27 : Nat), ∃ (x_28 : Int), ∃ (x_29 : Int), v = Go.Value.tuple #[Go.Value.slice x_25 x_26 x_27, Go.Value.int Go.IntKind.i64
 x_28, Go.Value.int Go.IntKind.i64 x_29] ∧ ∃ (x_30 : Option Go.Addr), ∃ (x_31 : Nat), ∃ (x_32 : Nat), ∃ (w'_2 : Go.World), Go.Sx.RunsTo Go.Proofs.Try.prog (Go.Builtin.append_ (Array.mk [(27 : Nat), (27
 : Nat)]) (27 : Nat) #[Go.Value.slice x x_3 x_4, Go.Value.slice (Option.some (Go.Addr.mk (Array.size (Go.World.heap w')) (0 : Nat) Option.none)) (2 : Nat) (2 : Nat)]) (Go.World.alloc w' (Go.Obj.cells
 #[Go.Value.int Go.IntKind.i64 x_18, Go.Value.int Go.IntKind.i64 x_29] (3 : Nat))) (Go.Value.slice x_30 x_31 x_32) w'_2 ∧ I x_30 x_31 x_32 (Go.IntKind.wrap Go.IntKind.i64 (x_5 + (1 : Int))) w'_2 ∧ μ
 x_30 x_31 x_32 (Go.IntKind.wrap Go.IntKind.i64 (x_5 + (1 : Int))) w'_2 < μ x x_3 x_4 x_5 w else ∃ (I : Int → Go.World → Prop), ∃ (μ : Int → Go.World → Nat), I (0 : Int) (Go.World.alloc w (Go.Obj.cells
 #[Go.Value.int Go.IntKind.i64 (11 : Int), Go.Value.int Go.IntKind.i64 (3 : Int), Go.Value.int Go.IntKind.i64 (3 : Int), Go.Value.int Go.IntKind.i64 (3 : Int), Go.Value.int Go.IntKind.i64 (3 : Int),
 Go.Value.int Go.IntKind.i64 (3 : Int), Go.Value.int Go.IntKind.i64 (3 : Int), Go.Value.int Go.IntKind.i64 (11 : Int), Go.Value.int Go.IntKind.i64 (3 : Int), Go.Value.int Go.IntKind.i64 (3 : Int),
 Go.Value.int Go.IntKind.i64 (0 : Int), Go.Value.int Go.IntKind.i64 (3 : Int), Go.Value.int Go.IntKind.i64 (0 : Int), Go.Value.int Go.IntKind.i64 (10 : Int), Go.Value.int Go.IntKind.i64 (10 : Int),
 Go.Value.int Go.IntKind.i64 (10 : Int)] (3 : Nat))) ∧ ∀ (x_6 : Int) (w_1 : Go.World), I x_6 w_1 → bif Decidable.decide (x_6 < (↑(16 : Nat) : Int)) then ∃ (ad : Go.Addr), Option.some (Go.Addr.mk
 (Array.size (Go.World.heap w)) (0 : Nat) Option.none) = Option.some ad ∧ ((0 : Int) ≤ x_6 ∧ x_6 < (↑(16 : Nat) : Int)) ∧ ∃ (x_7 : Int), Go.World.cell? w_1 (Go.Addr.add ad (Int.toNat x_6 * (1 : Nat))) =
 Option.some (Go.Value.int Go.IntKind.i64 x_7) ∧ ∃ (ad : Go.Addr), x = Option.some ad ∧ ((0 : Int) ≤ x_6 ∧ x_6 < (↑x_3 : Int)) ∧ ∃ (x : Int), Go.World.cell? w_1 (Go.Addr.add ad (Int.toNat x_6 * (1 :
 Nat))) = Option.some (Go.Value.int Go.IntKind.i64 x) ∧ bif !Decidable.decide (x = x_7) then K (Go.Value.bool Bool.false) w_1 else I (Go.IntKind.wrap Go.IntKind.i64 (x_6 + (1 : Int))) w_1 ∧ μ
 (Go.IntKind.wrap Go.IntKind.i64 (x_6 + (1 : Int))) w_1 < μ x_6 w_1 else Go.Sx.CallsV Go.Proofs.Try.prog (14 : Nat) #[] w_1 fun (v : Go.Value) (w' : Go.World) => ∃ (x : Bool), v = Go.Value.bool x ∧ K
 (Go.Value.bool x) w'
theorem cardindexlaw01_BytesNumbers.eq  (w : World) (K : Value → World → Prop) : cardindexlaw01_BytesNumbers.W  w K = fnW Try.prog Try.f3 (.seq .auto (.seq .auto (.seq (.seq .auto (.block (.loop [(1, .one .str), (2, .one .str), (3, .one (.int .i64))] .auto))) (.seq .auto (.seq .auto (.seq .auto (.seq (.seq .auto (.block (.loop [(5, .one .slc), (106, .one (.int .i64))] .auto))) (.seq (.seq .auto (.block (.loop [(140, .one (.int .i64))] .auto))) .auto)))))))) [] w K := by kernel_rfl
theorem cardindexlaw01_BytesNumbers.calls (ok : Okay Try.prog)  {w : World} {K : Value → World → Prop} (h : cardindexlaw01_BytesNumbers.W  w K) : CallsV Try.prog 3 #[] w K :=
  fnW_calls ok Try.func3 (an := (.seq .auto (.seq .auto (.seq (.seq .auto (.block (.loop [(1, .one .str), (2, .one .str), (3, .one (.int .i64))] .auto))) (.seq .auto (.seq .auto (.seq .auto (.seq (.seq .auto (.block (.loop [(5, .one .slc), (106, .one (.int .i64))] .auto))) (.seq (.seq .auto (.block (.loop [(140, .one (.int .i64))] .auto))) .auto))))))))) (args := []) (by rw [← cardindexlaw01_BytesNumbers.eq]; exact h)
end Go.Proofs.Ytbpcfkahnhlahaa
