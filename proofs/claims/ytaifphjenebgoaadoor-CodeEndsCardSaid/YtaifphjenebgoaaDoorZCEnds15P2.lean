/- Part 2 of the texts of this claim: the engine, contracts, plain laws. -/
import Derived.Test.YtaifphjenebgoaaDoorProg
import Derived.Test.YtaifphjenebgoaaDoorZCEnds15P1
import Derived.Shelf.Strconv.Itoa0
import Derived.Shelf.Strconv.Itoa1
import Derived.Shelf.LaysM
import Derived.Shelf.Strconv.Itoa2
import Derived.Shelf.Strconv.Itoa3
import Derived.Shelf.Strings.Search1
import Derived.Shelf.Strings.Search2
import Derived.Shelf.Strings.Search3
import Derived.Shelf.Strings.Shaped
import Derived.Shelf.Strings.Prefix
import Derived.Shelf.Strings.Fields
import Derived.Shelf.Strings.SplitShaped
import Derived.Shelf.Unicode.Latin
import Derived.Shelf.Unicode.Is16White
import Derived.Shelf.Unicode.IsSpaceAny
import Derived.Shelf.Unicode.Is16Any
import Derived.Shelf.Unicode.Is32Any
import Derived.Shelf.Unicode.ExclAny
import Derived.Lib.ConvBytes
import Derived.Lib.AppendStr
import Derived.Laws.MakeOwn
import Derived.Laws.BytesArg
/- The preconditions of Go functions, printed by a program of this workplace (nests.py); each is proved to be the engine's own. -/
set_option linter.unusedVariables false
set_option maxRecDepth 100000
namespace Go.Proofs.YtaifphjenebgoaaDoor
open Go Go.Sx
noncomputable def code_Show.W : Int → Int → Int → Int → Int → World → (Value → World → Prop) → Prop := fun (i0 i1 i2 i3 i4 : Int) (w : Go.World) (K : Go.Value → Go.World → Prop) => ∀ (g : Nat) (w' :
 Go.World), Go.Sx.Fresh w g w' [Go.Value.int Go.IntKind.u8 i0, Go.Value.int Go.IntKind.i64 i1, Go.Value.int Go.IntKind.i64 i2, Go.Value.int Go.IntKind.i64 i3, Go.Value.int Go.IntKind.i64 i4] (38 : Nat)
 → ∃ (x : Int), Go.World.cell? w' (Go.Addr.add (Go.Addr.mk g (0 : Nat) Option.none) (0 : Nat)) = Option.some (Go.Value.int Go.IntKind.u8 x) ∧ Go.Sx.CallsV Go.Proofs.Tryd.prog (14 : Nat) #[Go.Value.int
 Go.IntKind.u8 x] w' fun (v : Go.Value) (w' : Go.World) => ∃ (x : ByteArray), v = Go.Value.string x ∧ ∃ (J : ByteArray → Go.World → Prop), (∀ (x : ByteArray) (w : Go.World), J x w → ∃ (x_1 : Int),
 Go.World.cell? w (Go.Addr.add (Go.Addr.mk g (0 : Nat) Option.none) (1 : Nat)) = Option.some (Go.Value.int Go.IntKind.i64 x_1) ∧ ∃ (x_2 : Int), Go.World.cell? w (Go.Addr.add (Go.Addr.mk g (0 : Nat)
 Option.none) (2 : Nat)) = Option.some (Go.Value.int Go.IntKind.i64 x_2) ∧ ∃ (x_3 : Int), Go.World.cell? w (Go.Addr.add (Go.Addr.mk g (0 : Nat) Option.none) (3 : Nat)) = Option.some (Go.Value.int
 Go.IntKind.i64 x_3) ∧ ∃ (x_4 : Int), Go.World.cell? w (Go.Addr.add (Go.Addr.mk g (0 : Nat) Option.none) (4 : Nat)) = Option.some (Go.Value.int Go.IntKind.i64 x_4) ∧ ∃ (I : ByteArray → Int → Go.World →
 Prop), ∃ (μ : ByteArray → Int → Go.World → Nat), I x (0 : Int) w ∧ ∀ (x : ByteArray) (x_5 : Int) (w : Go.World), I x x_5 w → bif Decidable.decide (x_5 < (4 : Int)) then ((0 : Int) ≤ x_5 ∧ x_5 < (↑(4 :
 Nat) : Int)) ∧ bif Decidable.decide (x_5 = (↑(0 : Nat) : Int)) then Go.Sx.CallsV Go.Proofs.Tryd.prog (22 : Nat) #[Go.Value.int Go.IntKind.i64 x_1] w fun (v : Go.Value) (w' : Go.World) => ∃ (x_6 :
 ByteArray), v = Go.Value.string x_6 ∧ ByteArray.size (ByteArray.mk #[(32 : UInt8)]) + ByteArray.size x_6 ≤ (9223372036854775807 : Nat) ∧ ByteArray.size x + ByteArray.size (ByteArray.mk #[(32 : UInt8)]
 ++ x_6) ≤ (9223372036854775807 : Nat) ∧ I (x ++ (ByteArray.mk #[(32 : UInt8)] ++ x_6)) (Go.IntKind.wrap Go.IntKind.i64 (x_5 + (1 : Int))) w' ∧ μ (x ++ (ByteArray.mk #[(32 : UInt8)] ++ x_6))
 (Go.IntKind.wrap Go.IntKind.i64 (x_5 + (1 : Int))) w' < μ x x_5 w else bif Decidable.decide (x_5 = (↑(1 : Nat) : Int)) then Go.Sx.CallsV Go.Proofs.Tryd.prog (22 : Nat) #[Go.Value.int Go.IntKind.i64
 x_2] w fun (v : Go.Value) (w' : Go.World) => ∃ (x_6 : ByteArray), v = Go.Value.string x_6 ∧ ByteArray.size (ByteArray.mk #[(32 : UInt8)]) + ByteArray.size x_6 ≤ (9223372036854775807 : Nat) ∧
 ByteArray.size x + ByteArray.size (ByteArray.mk #[(32 : UInt8)] ++ x_6) ≤ (9223372036854775807 : Nat) ∧ I (x ++ (ByteArray.mk #[(32 : UInt8)] ++ x_6)) (Go.IntKind.wrap Go.IntKind.i64 (x_5 + (1 : Int)))
 w' ∧ μ (x ++ (ByteArray.mk #[(32 : UInt8)] ++ x_6)) (Go.IntKind.wrap Go.IntKind.i64 (x_5 + (1 : Int))) w' < μ x x_5 w else bif Decidable.decide (x_5 = (↑(2 : Nat) : Int)) then Go.Sx.CallsV
 Go.Proofs.Tryd.prog (22 : Nat) #[Go.Value.int Go.IntKind.i64 x_3] w fun (v : Go.Value) (w' : Go.World) => ∃ (x_6 : ByteArray), v = Go.Value.string x_6 ∧ ByteArray.size (ByteArray.mk #[(32 : UInt8)]) +
 ByteArray.size x_6 ≤ (9223372036854775807 : Nat) ∧ ByteArray.size x + ByteArray.size (ByteArray.mk #[(32 : UInt8)] ++ x_6) ≤ (9223372036854775807 : Nat) ∧ I (x ++ (ByteArray.mk #[(32 : UInt8)] ++ x_6))
 (Go.IntKind.wrap Go.IntKind.i64 (x_5 + (1 : Int))) w' ∧ μ (x ++ (ByteArray.mk #[(32 : UInt8)] ++ x_6)) (Go.IntKind.wrap Go.IntKind.i64 (x_5 + (1 : Int))) w' < μ x x_5 w else bif Decidable.decide (x_5 =
 (↑(3 : Nat) : Int)) then Go.Sx.CallsV Go.Proofs.Tryd.prog (22 : Nat) #[Go.Value.int Go.IntKind.i64 x_4] w fun (v : Go.Value) (w' : Go.World) => ∃ (x_6 : ByteArray), v = Go.Value.string x_6 ∧
 ByteArray.size (ByteArray.mk #[(32 : UInt8)]) + ByteArray.size x_6 ≤ (9223372036854775807 : Nat) ∧ ByteArray.size x + ByteArray.size (ByteArray.mk #[(32 : UInt8)] ++ x_6) ≤ (9223372036854775807 : Nat)
 ∧ I (x ++ (ByteArray.mk #[(32 : UInt8)] ++ x_6)) (Go.IntKind.wrap Go.IntKind.i64 (x_5 + (1 : Int))) w' ∧ μ (x ++ (ByteArray.mk #[(32 : UInt8)] ++ x_6)) (Go.IntKind.wrap Go.IntKind.i64 (x_5 + (1 :
 Int))) w' < μ x x_5 w else False else K (Go.Value.string x) w) ∧ bif ByteArray.toList x == ByteArray.toList (ByteArray.mk #[]) then ∃ (x : Int), Go.World.cell? w' (Go.Addr.add (Go.Addr.mk g (0 : Nat)
 Option.none) (0 : Nat)) = Option.some (Go.Value.int Go.IntKind.u8 x) ∧ Go.Sx.CallsV Go.Proofs.Tryd.prog (22 : Nat) #[Go.Value.int Go.IntKind.i64 (Go.IntKind.wrap Go.IntKind.i64 x)] w' fun (v :
 Go.Value) (w' : Go.World) => ∃ (x : ByteArray), v = Go.Value.string x ∧ ByteArray.size (ByteArray.mk #[(111 : UInt8), (112 : UInt8)]) + ByteArray.size x ≤ (9223372036854775807 : Nat) ∧ J (ByteArray.mk
 #[(111 : UInt8), (112 : UInt8)] ++ x) w' else J x w'
theorem code_Show.eq (i0 : Int) (i1 : Int) (i2 : Int) (i3 : Int) (i4 : Int) (w : World) (K : Value → World → Prop) : code_Show.W i0 i1 i2 i3 i4 w K = fnW Tryd.prog Tryd.f11 (.named (.seq .auto (.seq .auto (.join [(3, .one .str)] .auto (.seq (.seq .auto (.block (.loop [(3, .one .str), (25, .one (.int .i64))] .auto))) .auto))))) [.agg #[.int .u8 i0, .int .i64 i1, .int .i64 i2, .int .i64 i3, .int .i64 i4]] w K := by kernel_rfl
theorem code_Show.calls (ok : Okay Tryd.prog) {i0 : Int} {i1 : Int} {i2 : Int} {i3 : Int} {i4 : Int} {w : World} {K : Value → World → Prop} (h : code_Show.W i0 i1 i2 i3 i4 w K) : CallsV Tryd.prog 11 #[.agg #[.int .u8 i0, .int .i64 i1, .int .i64 i2, .int .i64 i3, .int .i64 i4]] w K :=
  fnW_calls ok Tryd.func11 (an := (.named (.seq .auto (.seq .auto (.join [(3, .one .str)] .auto (.seq (.seq .auto (.block (.loop [(3, .one .str), (25, .one (.int .i64))] .auto))) .auto)))))) (args := [.agg #[.int .u8 i0, .int .i64 i1, .int .i64 i2, .int .i64 i3, .int .i64 i4]]) (by rw [← code_Show.eq]; exact h)
noncomputable def code_Word.W : Int → World → (Value → World → Prop) → Prop := fun (o : Int) (w : Go.World) (K : Go.Value → Go.World → Prop) => Go.Sx.CallsV Go.Proofs.Tryd.prog (26 : Nat)
 #[Go.Value.string (ByteArray.mk #[(99 : UInt8), (111 : UInt8), (110 : UInt8), (115 : UInt8), (116 : UInt8), (32 : UInt8), (98 : UInt8), (105 : UInt8), (110 : UInt8), (100 : UInt8), (32 : UInt8), (109 :
 UInt8), (111 : UInt8), (118 : UInt8), (101 : UInt8), (32 : UInt8), (116 : UInt8), (119 : UInt8), (111 : UInt8), (32 : UInt8), (111 : UInt8), (110 : UInt8), (101 : UInt8), (32 : UInt8), (105 : UInt8),
 (115 : UInt8), (32 : UInt8), (99 : UInt8), (97 : UInt8), (115 : UInt8), (116 : UInt8), (32 : UInt8), (99 : UInt8), (97 : UInt8), (108 : UInt8), (108 : UInt8), (32 : UInt8), (109 : UInt8), (117 :
 UInt8), (115 : UInt8), (116 : UInt8), (32 : UInt8), (106 : UInt8), (117 : UInt8), (109 : UInt8), (112 : UInt8), (32 : UInt8), (105 : UInt8), (102 : UInt8), (32 : UInt8), (100 : UInt8), (105 : UInt8),
 (102 : UInt8), (102 : UInt8), (101 : UInt8), (114 : UInt8), (32 : UInt8), (102 : UInt8), (105 : UInt8), (114 : UInt8), (115 : UInt8), (116 : UInt8), (32 : UInt8), (115 : UInt8), (101 : UInt8), (101 :
 UInt8), (107 : UInt8), (32 : UInt8), (110 : UInt8), (101 : UInt8), (120 : UInt8), (116 : UInt8), (32 : UInt8), (112 : UInt8), (97 : UInt8), (115 : UInt8), (116 : UInt8), (32 : UInt8), (102 : UInt8),
 (105 : UInt8), (110 : UInt8), (100 : UInt8), (32 : UInt8), (99 : UInt8), (111 : UInt8), (108 : UInt8), (32 : UInt8), (114 : UInt8), (111 : UInt8), (119 : UInt8), (105 : UInt8), (100 : UInt8), (32 :
 UInt8), (97 : UInt8), (100 : UInt8), (100 : UInt8), (32 : UInt8), (115 : UInt8), (111 : UInt8), (114 : UInt8), (116 : UInt8), (101 : UInt8), (100 : UInt8), (32 : UInt8), (97 : UInt8), (102 : UInt8),
 (116 : UInt8), (101 : UInt8), (114 : UInt8), (32 : UInt8), (116 : UInt8), (97 : UInt8), (107 : UInt8), (101 : UInt8), (32 : UInt8), (99 : UInt8), (108 : UInt8), (101 : UInt8), (97 : UInt8), (114 :
 UInt8), (32 : UInt8), (115 : UInt8), (116 : UInt8), (101 : UInt8), (112 : UInt8), (32 : UInt8), (116 : UInt8), (111 : UInt8), (116 : UInt8), (97 : UInt8), (108 : UInt8), (32 : UInt8), (114 : UInt8),
 (111 : UInt8), (119 : UInt8), (32 : UInt8), (110 : UInt8), (101 : UInt8), (119 : UInt8), (105 : UInt8), (100 : UInt8), (32 : UInt8), (105 : UInt8), (110 : UInt8), (115 : UInt8), (101 : UInt8), (114 :
 UInt8), (116 : UInt8), (32 : UInt8), (100 : UInt8), (101 : UInt8), (108 : UInt8), (101 : UInt8), (116 : UInt8), (101 : UInt8), (32 : UInt8), (100 : UInt8), (101 : UInt8), (102 : UInt8), (105 : UInt8),
 (110 : UInt8), (101 : UInt8), (32 : UInt8), (98 : UInt8), (101 : UInt8), (103 : UInt8), (105 : UInt8), (110 : UInt8), (32 : UInt8), (99 : UInt8), (111 : UInt8), (109 : UInt8), (109 : UInt8), (105 :
 UInt8), (116 : UInt8), (32 : UInt8), (98 : UInt8), (97 : UInt8), (99 : UInt8), (107 : UInt8), (32 : UInt8), (104 : UInt8), (97 : UInt8), (108 : UInt8), (116 : UInt8)]), Go.Value.int Go.IntKind.i64
 (Go.IntKind.wrap Go.IntKind.i64 (Go.IntKind.wrap Go.IntKind.i64 o - (1 : Int)))] w fun (v : Go.Value) (w' : Go.World) => ∃ (x : ByteArray), ∃ (x_1 : Bool), v = Go.Value.tuple #[Go.Value.string x,
 Go.Value.bool x_1] ∧ K (Go.Value.string x) w'
theorem code_Word.eq (o : Int) (w : World) (K : Value → World → Prop) : code_Word.W o w K = fnW Tryd.prog Tryd.f14 (.named .auto) [.int .u8 o] w K := by kernel_rfl
theorem code_Word.calls (ok : Okay Tryd.prog) {o : Int} {w : World} {K : Value → World → Prop} (h : code_Word.W o w K) : CallsV Tryd.prog 14 #[.int .u8 o] w K :=
  fnW_calls ok Tryd.func14 (an := (.named .auto)) (args := [.int .u8 o]) (by rw [← code_Word.eq]; exact h)
noncomputable def cardindexlaw15_Great.W : Int → Int → Int → Option Addr → Nat → Nat → Option Addr → Nat → Nat → Option Addr → Nat → Nat → Option Addr → Nat → Nat → Option Addr → Nat → Nat → Option
 Addr → Nat → Nat → World → (Value → World → Prop) → Prop := fun (p0 p1 p2 : Int) (p3_A : Option Go.Addr) (p3_n p3_c : Nat) (p4_A : Option Go.Addr) (p4_n p4_c : Nat) (p5_A : Option Go.Addr) (p5_n p5_c :
 Nat) (p6_A : Option Go.Addr) (p6_n p6_c : Nat) (p7_A : Option Go.Addr) (p7_n p7_c : Nat) (p8_A : Option Go.Addr) (p8_n p8_c : Nat) (w : Go.World) (K : Go.Value → Go.World → Prop) => ∀ (g : Nat) (w' :
 Go.World), Go.Sx.Fresh w g w' [Go.Value.int Go.IntKind.i64 p0, Go.Value.int Go.IntKind.i64 p1, Go.Value.int Go.IntKind.i64 p2, Go.Value.slice p3_A p3_n p3_c, Go.Value.slice p4_A p4_n p4_c,
 Go.Value.slice p5_A p5_n p5_c, Go.Value.slice p6_A p6_n p6_c, Go.Value.slice p7_A p7_n p7_c, Go.Value.slice p8_A p8_n p8_c] (29 : Nat) → ∃ (x : Option Go.Addr), ∃ (x_1 : Nat), ∃ (x_2 : Nat),
 Go.World.cell? w' (Go.Addr.add (Go.Addr.mk g (0 : Nat) Option.none) (8 : Nat)) = Option.some (Go.Value.slice x x_1 x_2) ∧ bif Decidable.decide ((5000 : Int) < (↑x_1 : Int)) then K (Go.Value.bool
 Bool.true) w' else ∃ (x : Option Go.Addr), ∃ (x_3 : Nat), ∃ (x_4 : Nat), Go.World.cell? w' (Go.Addr.add (Go.Addr.mk g (0 : Nat) Option.none) (3 : Nat)) = Option.some (Go.Value.slice x x_3 x_4) ∧ ∃ (x :
 Option Go.Addr), ∃ (x_5 : Nat), ∃ (x_6 : Nat), Go.World.cell? w' (Go.Addr.add (Go.Addr.mk g (0 : Nat) Option.none) (5 : Nat)) = Option.some (Go.Value.slice x x_5 x_6) ∧ ∃ (x : Option Go.Addr), ∃ (x_7 :
 Nat), ∃ (x_8 : Nat), Go.World.cell? w' (Go.Addr.add (Go.Addr.mk g (0 : Nat) Option.none) (6 : Nat)) = Option.some (Go.Value.slice x x_7 x_8) ∧ ∃ (x : Option Go.Addr), ∃ (x_9 : Nat), ∃ (x_10 : Nat),
 Go.World.cell? w' (Go.Addr.add (Go.Addr.mk g (0 : Nat) Option.none) (7 : Nat)) = Option.some (Go.Value.slice x x_9 x_10) ∧ bif Decidable.decide ((1100 : Int) < Go.IntKind.wrap Go.IntKind.i64
 (Go.IntKind.wrap Go.IntKind.i64 (Go.IntKind.wrap Go.IntKind.i64 ((↑x_3 : Int) + (↑x_5 : Int)) + (↑x_7 : Int)) + (↑x_9 : Int))) then K (Go.Value.bool Bool.true) w' else ∃ (x : Option Go.Addr), ∃ (x_11 :
 Nat), ∃ (x_12 : Nat), Go.World.cell? w' (Go.Addr.add (Go.Addr.mk g (0 : Nat) Option.none) (4 : Nat)) = Option.some (Go.Value.slice x x_11 x_12) ∧ bif Decidable.decide ((1100 : Int) < (↑x_11 : Int))
 then K (Go.Value.bool Bool.true) w' else ∃ (x : Option Go.Addr), ∃ (x_13 : Nat), ∃ (x_14 : Nat), Go.World.cell? w' (Go.Addr.add (Go.Addr.mk g (0 : Nat) Option.none) (3 : Nat)) = Option.some
 (Go.Value.slice x x_13 x_14) ∧ ∃ (I : Int → Int → Go.World → Prop), ∃ (μ : Int → Int → Go.World → Nat), I (0 : Int) (0 : Int) w' ∧ ∀ (x x_15 : Int) (w : Go.World), I x x_15 w → bif Decidable.decide
 (x_15 < (↑x_13 : Int)) then ∃ (x_16 : Option Go.Addr), ∃ (x_17 : Nat), ∃ (x_18 : Nat), Go.World.cell? w (Go.Addr.add (Go.Addr.mk g (0 : Nat) Option.none) (3 : Nat)) = Option.some (Go.Value.slice x_16
 x_17 x_18) ∧ ∃ (ad : Go.Addr), x_16 = Option.some ad ∧ ((0 : Int) ≤ x_15 ∧ x_15 < (↑x_17 : Int)) ∧ ∃ (x_19 : ByteArray), Go.World.cell? w (Go.Addr.add ad (Int.toNat x_15 * (1 : Nat))) = Option.some
 (Go.Value.string x_19) ∧ I (Go.IntKind.wrap Go.IntKind.i64 (x + (↑(ByteArray.size x_19) : Int))) (Go.IntKind.wrap Go.IntKind.i64 (x_15 + (1 : Int))) w ∧ μ (Go.IntKind.wrap Go.IntKind.i64 (x +
 (↑(ByteArray.size x_19) : Int))) (Go.IntKind.wrap Go.IntKind.i64 (x_15 + (1 : Int))) w < μ x x_15 w else ∃ (x_16 : Option Go.Addr), ∃ (x_17 : Nat), ∃ (x_18 : Nat), Go.World.cell? w (Go.Addr.add
 (Go.Addr.mk g (0 : Nat) Option.none) (4 : Nat)) = Option.some (Go.Value.slice x_16 x_17 x_18) ∧ ∃ (I : Int → Int → Go.World → Prop), ∃ (μ : Int → Int → Go.World → Nat), I x (0 : Int) w ∧ ∀ (x x_19 :
 Int) (w : Go.World), I x x_19 w → bif Decidable.decide (x_19 < (↑x_17 : Int)) then ∃ (x_20 : Option Go.Addr), ∃ (x_21 : Nat), ∃ (x_22 : Nat), Go.World.cell? w (Go.Addr.add (Go.Addr.mk g (0 : Nat)
 Option.none) (4 : Nat)) = Option.some (Go.Value.slice x_20 x_21 x_22) ∧ ∃ (ad : Go.Addr), x_20 = Option.some ad ∧ ((0 : Int) ≤ x_19 ∧ x_19 < (↑x_21 : Int)) ∧ ∃ (x_23 : ByteArray), Go.World.cell? w
 (Go.Addr.add (Go.Addr.add ad (Int.toNat x_19 * (3 : Nat))) (2 : Nat)) = Option.some (Go.Value.string x_23) ∧ I (Go.IntKind.wrap Go.IntKind.i64 (x + (↑(ByteArray.size x_23) : Int))) (Go.IntKind.wrap
 Go.IntKind.i64 (x_19 + (1 : Int))) w ∧ μ (Go.IntKind.wrap Go.IntKind.i64 (x + (↑(ByteArray.size x_23) : Int))) (Go.IntKind.wrap Go.IntKind.i64 (x_19 + (1 : Int))) w < μ x x_19 w else ∃ (x_20 : Option
 Go.Addr), ∃ (x_21 : Nat), ∃ (x_22 : Nat), Go.World.cell? w (Go.Addr.add (Go.Addr.mk g (0 : Nat) Option.none) (5 : Nat)) = Option.some (Go.Value.slice x_20 x_21 x_22) ∧ ∃ (I : Int → Int → Go.World →
 Prop), ∃ (μ : Int → Int → Go.World → Nat), I x (0 : Int) w ∧ ∀ (x x_23 : Int) (w : Go.World), I x x_23 w → bif Decidable.decide (x_23 < (↑x_21 : Int)) then ∃ (x_24 : Option Go.Addr), ∃ (x_25 : Nat), ∃
 (x_26 : Nat), Go.World.cell? w (Go.Addr.add (Go.Addr.mk g (0 : Nat) Option.none) (5 : Nat)) = Option.some (Go.Value.slice x_24 x_25 x_26) ∧ ∃ (ad : Go.Addr), x_24 = Option.some ad ∧ ((0 : Int) ≤ x_23 ∧
 x_23 < (↑x_25 : Int)) ∧ ∃ (x_27 : ByteArray), Go.World.cell? w (Go.Addr.add (Go.Addr.add ad (Int.toNat x_23 * (3 : Nat))) (0 : Nat)) = Option.some (Go.Value.string x_27) ∧ I (Go.IntKind.wrap
 Go.IntKind.i64 (x + (↑(ByteArray.size x_27) : Int))) (Go.IntKind.wrap Go.IntKind.i64 (x_23 + (1 : Int))) w ∧ μ (Go.IntKind.wrap Go.IntKind.i64 (x + (↑(ByteArray.size x_27) : Int))) (Go.IntKind.wrap
 Go.IntKind.i64 (x_23 + (1 : Int))) w < μ x x_23 w else ∃ (x_24 : Option Go.Addr), ∃ (x_25 : Nat), ∃ (x_26 : Nat), Go.World.cell? w (Go.Addr.add (Go.Addr.mk g (0 : Nat) Option.none) (6 : Nat)) =
 Option.some (Go.Value.slice x_24 x_25 x_26) ∧ ∃ (I : Int → Int → Go.World → Prop), ∃ (μ : Int → Int → Go.World → Nat), I x (0 : Int) w ∧ ∀ (x x_27 : Int) (w : Go.World), I x x_27 w → bif
 Decidable.decide (x_27 < (↑x_25 : Int)) then ∃ (x_28 : Option Go.Addr), ∃ (x_29 : Nat), ∃ (x_30 : Nat), Go.World.cell? w (Go.Addr.add (Go.Addr.mk g (0 : Nat) Option.none) (6 : Nat)) = Option.some
 (Go.Value.slice x_28 x_29 x_30) ∧ ∃ (ad : Go.Addr), x_28 = Option.some ad ∧ ((0 : Int) ≤ x_27 ∧ x_27 < (↑x_29 : Int)) ∧ ∃ (x_31 : Option Go.Addr), ∃ (x_32 : Nat), ∃ (x_33 : Nat), Go.World.cell? w
 (Go.Addr.add (Go.Addr.add ad (Int.toNat x_27 * (3 : Nat))) (0 : Nat)) = Option.some (Go.Value.slice x_31 x_32 x_33) ∧ I (Go.IntKind.wrap Go.IntKind.i64 (x + (↑x_32 : Int))) (Go.IntKind.wrap
 Go.IntKind.i64 (x_27 + (1 : Int))) w ∧ μ (Go.IntKind.wrap Go.IntKind.i64 (x + (↑x_32 : Int))) (Go.IntKind.wrap Go.IntKind.i64 (x_27 + (1 : Int))) w < μ x x_27 w else ∃ (x_28 : Option Go.Addr), ∃ (x_29
 : Nat), ∃ (x_30 : Nat), Go.World.cell? w (Go.Addr.add (Go.Addr.mk g (0 : Nat) Option.none) (7 : Nat)) = Option.some (Go.Value.slice x_28 x_29 x_30) ∧ ∃ (I : Int → Int → Go.World → Prop), ∃ (μ : Int →
 Int → Go.World → Nat), I x (0 : Int) w ∧ ∀ (x x_31 : Int) (w : Go.World), I x x_31 w → bif Decidable.decide (x_31 < (↑x_29 : Int)) then ∃ (x_32 : Option Go.Addr), ∃ (x_33 : Nat), ∃ (x_34 : Nat),
 Go.World.cell? w (Go.Addr.add (Go.Addr.mk g (0 : Nat) Option.none) (7 : Nat)) = Option.some (Go.Value.slice x_32 x_33 x_34) ∧ ∃ (ad : Go.Addr), x_32 = Option.some ad ∧ ((0 : Int) ≤ x_31 ∧ x_31 < (↑x_33
 : Int)) ∧ ∃ (x_35 : ByteArray), Go.World.cell? w (Go.Addr.add (Go.Addr.add ad (Int.toNat x_31 * (2 : Nat))) (0 : Nat)) = Option.some (Go.Value.string x_35) ∧ I (Go.IntKind.wrap Go.IntKind.i64 (x +
 (↑(ByteArray.size x_35) : Int))) (Go.IntKind.wrap Go.IntKind.i64 (x_31 + (1 : Int))) w ∧ μ (Go.IntKind.wrap Go.IntKind.i64 (x + (↑(ByteArray.size x_35) : Int))) (Go.IntKind.wrap Go.IntKind.i64 (x_31 +
 (1 : Int))) w < μ x x_31 w else K (Go.Value.bool (Decidable.decide ((70000 : Int) < x))) w
theorem cardindexlaw15_Great.eq (p0 : Int) (p1 : Int) (p2 : Int) (p3_A : Option Addr) (p3_n : Nat) (p3_c : Nat) (p4_A : Option Addr) (p4_n : Nat) (p4_c : Nat) (p5_A : Option Addr) (p5_n : Nat) (p5_c : Nat) (p6_A : Option Addr) (p6_n : Nat) (p6_c : Nat) (p7_A : Option Addr) (p7_n : Nat) (p7_c : Nat) (p8_A : Option Addr) (p8_n : Nat) (p8_c : Nat) (w : World) (K : Value → World → Prop) : cardindexlaw15_Great.W p0 p1 p2 p3_A p3_n p3_c p4_A p4_n p4_c p5_A p5_n p5_c p6_A p6_n p6_c p7_A p7_n p7_c p8_A p8_n p8_c w K = fnW Tryd.prog Tryd.f7 (.named (.seq .auto (.seq .auto (.seq .auto (.seq (.seq .auto (.block (.loop [(3, .one (.int .i64)), (40, .one (.int .i64))] .auto))) (.seq (.seq .auto (.block (.loop [(3, .one (.int .i64)), (55, .one (.int .i64))] .auto))) (.seq (.seq .auto (.block (.loop [(3, .one (.int .i64)), (71, .one (.int .i64))] .auto))) (.seq (.seq .auto (.block (.loop [(3, .one (.int .i64)), (87, .one (.int .i64))] .auto))) (.seq (.seq .auto (.block (.loop [(3, .one (.int .i64)), (103, .one (.int .i64))] .auto))) .auto))))))))) [.agg #[.int .i64 p0, .int .i64 p1, .int .i64 p2, .slice p3_A p3_n p3_c, .slice p4_A p4_n p4_c, .slice p5_A p5_n p5_c, .slice p6_A p6_n p6_c, .slice p7_A p7_n p7_c, .slice p8_A p8_n p8_c]] w K := by kernel_rfl
theorem cardindexlaw15_Great.calls (ok : Okay Tryd.prog) {p0 : Int} {p1 : Int} {p2 : Int} {p3_A : Option Addr} {p3_n : Nat} {p3_c : Nat} {p4_A : Option Addr} {p4_n : Nat} {p4_c : Nat} {p5_A : Option Addr} {p5_n : Nat} {p5_c : Nat} {p6_A : Option Addr} {p6_n : Nat} {p6_c : Nat} {p7_A : Option Addr} {p7_n : Nat} {p7_c : Nat} {p8_A : Option Addr} {p8_n : Nat} {p8_c : Nat} {w : World} {K : Value → World → Prop} (h : cardindexlaw15_Great.W p0 p1 p2 p3_A p3_n p3_c p4_A p4_n p4_c p5_A p5_n p5_c p6_A p6_n p6_c p7_A p7_n p7_c p8_A p8_n p8_c w K) : CallsV Tryd.prog 7 #[.agg #[.int .i64 p0, .int .i64 p1, .int .i64 p2, .slice p3_A p3_n p3_c, .slice p4_A p4_n p4_c, .slice p5_A p5_n p5_c, .slice p6_A p6_n p6_c, .slice p7_A p7_n p7_c, .slice p8_A p8_n p8_c]] w K :=
  fnW_calls ok Tryd.func7 (an := (.named (.seq .auto (.seq .auto (.seq .auto (.seq (.seq .auto (.block (.loop [(3, .one (.int .i64)), (40, .one (.int .i64))] .auto))) (.seq (.seq .auto (.block (.loop [(3, .one (.int .i64)), (55, .one (.int .i64))] .auto))) (.seq (.seq .auto (.block (.loop [(3, .one (.int .i64)), (71, .one (.int .i64))] .auto))) (.seq (.seq .auto (.block (.loop [(3, .one (.int .i64)), (87, .one (.int .i64))] .auto))) (.seq (.seq .auto (.block (.loop [(3, .one (.int .i64)), (103, .one (.int .i64))] .auto))) .auto)))))))))) (args := [.agg #[.int .i64 p0, .int .i64 p1, .int .i64 p2, .slice p3_A p3_n p3_c, .slice p4_A p4_n p4_c, .slice p5_A p5_n p5_c, .slice p6_A p6_n p6_c, .slice p7_A p7_n p7_c, .slice p8_A p8_n p8_c]]) (by rw [← cardindexlaw15_Great.eq]; exact h)
noncomputable def cardindexlaw15_awake.W : World → (Value → World → Prop) → Prop := fun (w : Go.World) (K : Go.Value → Go.World → Prop) => ∀ (g : Nat) (w' : Go.World), Go.Sx.Fresh w g w' [Go.Value.int
 Go.IntKind.u8 (35 : Int), Go.Value.int Go.IntKind.i64 (0 : Int), Go.Value.int Go.IntKind.i64 (0 : Int), Go.Value.int Go.IntKind.i64 (0 : Int), Go.Value.int Go.IntKind.i64 (0 : Int)] (38 : Nat) → ∀ (g_1
 : Nat) (w'_1 : Go.World), Go.Sx.Fresh w' g_1 w'_1 [Go.Value.int Go.IntKind.i64 (0 : Int), Go.Value.int Go.IntKind.i64 (0 : Int), Go.Value.int Go.IntKind.i64 (0 : Int), Go.Value.slice Option.none (0 :
 Nat) (0 : Nat), Go.Value.slice Option.none (0 : Nat) (0 : Nat), Go.Value.slice Option.none (0 : Nat) (0 : Nat), Go.Value.slice Option.none (0 : Nat) (0 : Nat), Go.Value.slice Option.none (0 : Nat) (0 :
 Nat), Go.Value.slice Option.none (0 : Nat) (0 : Nat)] (29 : Nat) → Go.Sx.stOK (Go.Addr.mk g_1 (0 : Nat) Option.none) (0 : Nat) [Go.Value.int Go.IntKind.i64 (1 : Int), Go.Value.int Go.IntKind.i64 (1 :
 Int), Go.Value.int Go.IntKind.i64 (0 : Int), Go.Value.slice Option.none (0 : Nat) (0 : Nat), Go.Value.slice Option.none (0 : Nat) (0 : Nat), Go.Value.slice Option.none (0 : Nat) (0 : Nat),
 Go.Value.slice Option.none (0 : Nat) (0 : Nat), Go.Value.slice Option.none (0 : Nat) (0 : Nat), Go.Value.slice (Option.some (Go.Addr.mk g (0 : Nat) Option.none)) (1 : Nat) (1 : Nat)] w'_1 ∧ ∀ (w' :
 Go.World), w' = Go.Sx.setAll (Go.Addr.mk g_1 (0 : Nat) Option.none) (0 : Nat) [Go.Value.int Go.IntKind.i64 (1 : Int), Go.Value.int Go.IntKind.i64 (1 : Int), Go.Value.int Go.IntKind.i64 (0 : Int),
 Go.Value.slice Option.none (0 : Nat) (0 : Nat), Go.Value.slice Option.none (0 : Nat) (0 : Nat), Go.Value.slice Option.none (0 : Nat) (0 : Nat), Go.Value.slice Option.none (0 : Nat) (0 : Nat),
 Go.Value.slice Option.none (0 : Nat) (0 : Nat), Go.Value.slice (Option.some (Go.Addr.mk g (0 : Nat) Option.none)) (1 : Nat) (1 : Nat)] w'_1 → ∃ (S : Go.World → Prop), S (Go.World.drew w') ∧ ∃ (x :
 Int), (∀ (u : Go.World), S u → Go.World.cell? u (Go.Addr.add (Go.Addr.mk g_1 (0 : Nat) Option.none) (0 : Nat)) = Option.some (Go.Value.int Go.IntKind.i64 x)) ∧ ∃ (x_1 : Int), (∀ (u : Go.World), S u →
 Go.World.cell? u (Go.Addr.add (Go.Addr.mk g_1 (0 : Nat) Option.none) (1 : Nat)) = Option.some (Go.Value.int Go.IntKind.i64 x_1)) ∧ ∃ (x_2 : Int), (∀ (u : Go.World), S u → Go.World.cell? u (Go.Addr.add
 (Go.Addr.mk g_1 (0 : Nat) Option.none) (2 : Nat)) = Option.some (Go.Value.int Go.IntKind.i64 x_2)) ∧ ∃ (x_3 : Option Go.Addr), ∃ (x_4 : Nat), ∃ (x_5 : Nat), (∀ (u : Go.World), S u → Go.World.cell? u
 (Go.Addr.add (Go.Addr.mk g_1 (0 : Nat) Option.none) (3 : Nat)) = Option.some (Go.Value.slice x_3 x_4 x_5)) ∧ ∃ (x_6 : Option Go.Addr), ∃ (x_7 : Nat), ∃ (x_8 : Nat), (∀ (u : Go.World), S u →
 Go.World.cell? u (Go.Addr.add (Go.Addr.mk g_1 (0 : Nat) Option.none) (4 : Nat)) = Option.some (Go.Value.slice x_6 x_7 x_8)) ∧ ∃ (x_9 : Option Go.Addr), ∃ (x_10 : Nat), ∃ (x_11 : Nat), (∀ (u :
 Go.World), S u → Go.World.cell? u (Go.Addr.add (Go.Addr.mk g_1 (0 : Nat) Option.none) (5 : Nat)) = Option.some (Go.Value.slice x_9 x_10 x_11)) ∧ ∃ (x_12 : Option Go.Addr), ∃ (x_13 : Nat), ∃ (x_14 :
 Nat), (∀ (u : Go.World), S u → Go.World.cell? u (Go.Addr.add (Go.Addr.mk g_1 (0 : Nat) Option.none) (6 : Nat)) = Option.some (Go.Value.slice x_12 x_13 x_14)) ∧ ∃ (x_15 : Option Go.Addr), ∃ (x_16 :
 Nat), ∃ (x_17 : Nat), (∀ (u : Go.World), S u → Go.World.cell? u (Go.Addr.add (Go.Addr.mk g_1 (0 : Nat) Option.none) (7 : Nat)) = Option.some (Go.Value.slice x_15 x_16 x_17)) ∧ ∃ (x_18 : Option
 Go.Addr), ∃ (x_19 : Nat), ∃ (x_20 : Nat), (∀ (u : Go.World), S u → Go.World.cell? u (Go.Addr.add (Go.Addr.mk g_1 (0 : Nat) Option.none) (8 : Nat)) = Option.some (Go.Value.slice x_18 x_19 x_20)) ∧ ∃
 (x_21 : Int), (∀ (u : Go.World), S u → Go.World.cell? u (Go.Addr.add (Go.Addr.mk g_1 (0 : Nat) Option.none) (0 : Nat)) = Option.some (Go.Value.int Go.IntKind.i64 x_21)) ∧ ∃ (x_22 : Int), (∀ (u :
 Go.World), S u → Go.World.cell? u (Go.Addr.add (Go.Addr.mk g_1 (0 : Nat) Option.none) (1 : Nat)) = Option.some (Go.Value.int Go.IntKind.i64 x_22)) ∧ ∃ (x_23 : Int), (∀ (u : Go.World), S u →
 Go.World.cell? u (Go.Addr.add (Go.Addr.mk g_1 (0 : Nat) Option.none) (2 : Nat)) = Option.some (Go.Value.int Go.IntKind.i64 x_23)) ∧ ∃ (x_24 : Option Go.Addr), ∃ (x_25 : Nat), ∃ (x_26 : Nat), (∀ (u :
 Go.World), S u → Go.World.cell? u (Go.Addr.add (Go.Addr.mk g_1 (0 : Nat) Option.none) (3 : Nat)) = Option.some (Go.Value.slice x_24 x_25 x_26)) ∧ ∃ (x_27 : Option Go.Addr), ∃ (x_28 : Nat), ∃ (x_29 :
 Nat), (∀ (u : Go.World), S u → Go.World.cell? u (Go.Addr.add (Go.Addr.mk g_1 (0 : Nat) Option.none) (4 : Nat)) = Option.some (Go.Value.slice x_27 x_28 x_29)) ∧ ∃ (x_30 : Option Go.Addr), ∃ (x_31 :
 Nat), ∃ (x_32 : Nat), (∀ (u : Go.World), S u → Go.World.cell? u (Go.Addr.add (Go.Addr.mk g_1 (0 : Nat) Option.none) (5 : Nat)) = Option.some (Go.Value.slice x_30 x_31 x_32)) ∧ ∃ (x_33 : Option
 Go.Addr), ∃ (x_34 : Nat), ∃ (x_35 : Nat), (∀ (u : Go.World), S u → Go.World.cell? u (Go.Addr.add (Go.Addr.mk g_1 (0 : Nat) Option.none) (6 : Nat)) = Option.some (Go.Value.slice x_33 x_34 x_35)) ∧ ∃
 (x_36 : Option Go.Addr), ∃ (x_37 : Nat), ∃ (x_38 : Nat), (∀ (u : Go.World), S u → Go.World.cell? u (Go.Addr.add (Go.Addr.mk g_1 (0 : Nat) Option.none) (7 : Nat)) = Option.some (Go.Value.slice x_36 x_37
 x_38)) ∧ ∃ (x_39 : Option Go.Addr), ∃ (x_40 : Nat), ∃ (x_41 : Nat), (∀ (u : Go.World), S u → Go.World.cell? u (Go.Addr.add (Go.Addr.mk g_1 (0 : Nat) Option.none) (8 : Nat)) = Option.some
 (Go.Value.slice x_39 x_40 x_41)) ∧ (∀ (g : Nat) (w'_2 : Go.World), Go.Sx.Fresh (Go.World.drew w') g w'_2 [Go.Value.int Go.IntKind.i64 (0 : Int), Go.Value.int Go.IntKind.i64 (0 : Int), Go.Value.int
 Go.IntKind.i64 (0 : Int), Go.Value.slice Option.none (0 : Nat) (0 : Nat), Go.Value.slice Option.none (0 : Nat) (0 : Nat), Go.Value.slice Option.none (0 : Nat) (0 : Nat), Go.Value.slice Option.none (0 :
 Nat) (0 : Nat), Go.Value.slice Option.none (0 : Nat) (0 : Nat), Go.Value.slice Option.none (0 : Nat) (0 : Nat)] (29 : Nat) → S w'_2 ∧ ∀ (g_2 : Nat) (w' : Go.World), Go.Sx.Fresh w'_2 g_2 w'
 [Go.Value.int Go.IntKind.i64 (0 : Int), Go.Value.int Go.IntKind.i64 (0 : Int), Go.Value.int Go.IntKind.i64 (0 : Int), Go.Value.slice Option.none (0 : Nat) (0 : Nat), Go.Value.slice Option.none (0 :
 Nat) (0 : Nat), Go.Value.slice Option.none (0 : Nat) (0 : Nat), Go.Value.slice Option.none (0 : Nat) (0 : Nat), Go.Value.slice Option.none (0 : Nat) (0 : Nat), Go.Value.slice Option.none (0 : Nat) (0 :
 Nat)] (29 : Nat) → S w' ∧ Go.Sx.stOK (Go.Addr.mk g (0 : Nat) Option.none) (0 : Nat) [Go.Value.int Go.IntKind.i64 x, Go.Value.int Go.IntKind.i64 x_1, Go.Value.int Go.IntKind.i64 x_2, Go.Value.slice x_3
 x_4 x_5, Go.Value.slice x_6 x_7 x_8, Go.Value.slice x_9 x_10 x_11, Go.Value.slice x_12 x_13 x_14, Go.Value.slice x_15 x_16 x_17, Go.Value.slice x_18 x_19 x_20] w' ∧ ∀ (w'_3 : Go.World), w'_3 =
 Go.Sx.setAll (Go.Addr.mk g (0 : Nat) Option.none) (0 : Nat) [Go.Value.int Go.IntKind.i64 x, Go.Value.int Go.IntKind.i64 x_1, Go.Value.int Go.IntKind.i64 x_2, Go.Value.slice x_3 x_4 x_5, Go.Value.slice
 x_6 x_7 x_8, Go.Value.slice x_9 x_10 x_11, Go.Value.slice x_12 x_13 x_14, Go.Value.slice x_15 x_16 x_17, Go.Value.slice x_18 x_19 x_20] w' → S w'_3 ∧ Go.Sx.stOK (Go.Addr.mk g_2 (0 : Nat) Option.none)
 (0 : Nat) [Go.Value.int Go.IntKind.i64 x_21, Go.Value.int Go.IntKind.i64 x_22, Go.Value.int Go.IntKind.i64 x_23, Go.Value.slice x_24 x_25 x_26, Go.Value.slice x_27 x_28 x_29, Go.Value.slice x_30 x_31
 x_32, Go.Value.slice x_33 x_34 x_35, Go.Value.slice x_36 x_37 x_38, Go.Value.slice x_39 x_40 x_41] w'_3 ∧ ∀ (w' : Go.World), w' = Go.Sx.setAll (Go.Addr.mk g_2 (0 : Nat) Option.none) (0 : Nat)
 [Go.Value.int Go.IntKind.i64 x_21, Go.Value.int Go.IntKind.i64 x_22, Go.Value.int Go.IntKind.i64 x_23, Go.Value.slice x_24 x_25 x_26, Go.Value.slice x_27 x_28 x_29, Go.Value.slice x_30 x_31 x_32,
 Go.Value.slice x_33 x_34 x_35, Go.Value.slice x_36 x_37 x_38, Go.Value.slice x_39 x_40 x_41] w'_3 → ∀ (g_3 : Nat) (w'_4 : Go.World), Go.Sx.Fresh w' g_3 w'_4 [Go.Value.int Go.IntKind.u8 (10 : Int),
 Go.Value.int Go.IntKind.i64 (0 : Int), Go.Value.int Go.IntKind.i64 (0 : Int), Go.Value.int Go.IntKind.i64 (0 : Int), Go.Value.int Go.IntKind.i64 (0 : Int), Go.Value.int Go.IntKind.u8 (35 : Int),
 Go.Value.int Go.IntKind.i64 (0 : Int), Go.Value.int Go.IntKind.i64 (0 : Int), Go.Value.int Go.IntKind.i64 (0 : Int), Go.Value.int Go.IntKind.i64 (0 : Int)] (38 : Nat) → Go.Sx.stOK (Go.Addr.add
 (Go.Addr.mk g (0 : Nat) Option.none) (8 : Nat)) (0 : Nat) [Go.Value.slice (Option.some (Go.Addr.mk g_3 (0 : Nat) Option.none)) (2 : Nat) (2 : Nat)] w'_4 ∧ ∀ (w' : Go.World), w' = Go.Sx.setAll
 (Go.Addr.add (Go.Addr.mk g (0 : Nat) Option.none) (8 : Nat)) (0 : Nat) [Go.Value.slice (Option.some (Go.Addr.mk g_3 (0 : Nat) Option.none)) (2 : Nat) (2 : Nat)] w'_4 → ∀ (g_4 : Nat) (w'_5 : Go.World),
 Go.Sx.Fresh w' g_4 w'_5 [Go.Value.int Go.IntKind.u8 (10 : Int), Go.Value.int Go.IntKind.i64 (1 : Int), Go.Value.int Go.IntKind.i64 (0 : Int), Go.Value.int Go.IntKind.i64 (0 : Int), Go.Value.int
 Go.IntKind.i64 (0 : Int), Go.Value.int Go.IntKind.u8 (35 : Int), Go.Value.int Go.IntKind.i64 (0 : Int), Go.Value.int Go.IntKind.i64 (0 : Int), Go.Value.int Go.IntKind.i64 (0 : Int), Go.Value.int
 Go.IntKind.i64 (0 : Int)] (38 : Nat) → Go.Sx.stOK (Go.Addr.add (Go.Addr.mk g_2 (0 : Nat) Option.none) (8 : Nat)) (0 : Nat) [Go.Value.slice (Option.some (Go.Addr.mk g_4 (0 : Nat) Option.none)) (2 : Nat)
 (2 : Nat)] w'_5 ∧ ∀ (w' : Go.World), w' = Go.Sx.setAll (Go.Addr.add (Go.Addr.mk g_2 (0 : Nat) Option.none) (8 : Nat)) (0 : Nat) [Go.Value.slice (Option.some (Go.Addr.mk g_4 (0 : Nat) Option.none)) (2 :
 Nat) (2 : Nat)] w'_5 → Go.Sx.CallsV Go.Proofs.Tryd.prog (11 : Nat) #[Go.Value.agg #[Go.Value.int Go.IntKind.u8 (4 : Int), Go.Value.int Go.IntKind.i64 (2 : Int), Go.Value.int Go.IntKind.i64 (0 : Int),
 Go.Value.int Go.IntKind.i64 (1 : Int), Go.Value.int Go.IntKind.i64 (6 : Int)]] w' fun (v : Go.Value) (w' : Go.World) => ∃ (x : ByteArray), v = Go.Value.string x ∧ bif ByteArray.toList x ==
 ByteArray.toList (ByteArray.mk #[(116 : UInt8), (119 : UInt8), (111 : UInt8), (32 : UInt8), (50 : UInt8), (32 : UInt8), (48 : UInt8), (32 : UInt8), (49 : UInt8), (32 : UInt8), (54 : UInt8)]) then ∃ (x
 : Int), Go.World.cell? w' (Go.Addr.add (Go.Addr.mk g_1 (0 : Nat) Option.none) (0 : Nat)) = Option.some (Go.Value.int Go.IntKind.i64 x) ∧ ∃ (x_42 : Int), Go.World.cell? w' (Go.Addr.add (Go.Addr.mk g_1
 (0 : Nat) Option.none) (1 : Nat)) = Option.some (Go.Value.int Go.IntKind.i64 x_42) ∧ ∃ (x_43 : Int), Go.World.cell? w' (Go.Addr.add (Go.Addr.mk g_1 (0 : Nat) Option.none) (2 : Nat)) = Option.some
 (Go.Value.int Go.IntKind.i64 x_43) ∧ ∃ (x_44 : Option Go.Addr), ∃ (x_45 : Nat), ∃ (x_46 : Nat), Go.World.cell? w' (Go.Addr.add (Go.Addr.mk g_1 (0 : Nat) Option.none) (3 : Nat)) = Option.some
 (Go.Value.slice x_44 x_45 x_46) ∧ ∃ (x_47 : Option Go.Addr), ∃ (x_48 : Nat), ∃ (x_49 : Nat), Go.World.cell? w' (Go.Addr.add (Go.Addr.mk g_1 (0 : Nat) Option.none) (4 : Nat)) = Option.some
 (Go.Value.slice x_47 x_48 x_49) ∧ ∃ (x_50 : Option Go.Addr), ∃ (x_51 : Nat), ∃ (x_52 : Nat), Go.World.cell? w' (Go.Addr.add (Go.Addr.mk g_1 (0 : Nat) Option.none) (5 : Nat)) = Option.some
 (Go.Value.slice x_50 x_51 x_52) ∧ ∃ (x_53 : Option Go.Addr), ∃ (x_54 : Nat), ∃ (x_55 : Nat), Go.World.cell? w' (Go.Addr.add (Go.Addr.mk g_1 (0 : Nat) Option.none) (6 : Nat)) = Option.some
 (Go.Value.slice x_53 x_54 x_55) ∧ ∃ (x_56 : Option Go.Addr), ∃ (x_57 : Nat), ∃ (x_58 : Nat), Go.World.cell? w' (Go.Addr.add (Go.Addr.mk g_1 (0 : Nat) Option.none) (7 : Nat)) = Option.some
 (Go.Value.slice x_56 x_57 x_58) ∧ ∃ (x_59 : Option Go.Addr), ∃ (x_60 : Nat), ∃ (x_61 : Nat), Go.World.cell? w' (Go.Addr.add (Go.Addr.mk g_1 (0 : Nat) Option.none) (8 : Nat)) = Option.some
 (Go.Value.slice x_59 x_60 x_61) ∧ Go.Sx.CallsV Go.Proofs.Tryd.prog (8 : Nat) #[Go.Value.agg #[Go.Value.int Go.IntKind.i64 x, Go.Value.int Go.IntKind.i64 x_42, Go.Value.int Go.IntKind.i64 x_43,
 Go.Value.slice x_44 x_45 x_46, Go.Value.slice x_47 x_48 x_49, Go.Value.slice x_50 x_51 x_52, Go.Value.slice x_53 x_54 x_55, Go.Value.slice x_56 x_57 x_58, Go.Value.slice x_59 x_60 x_61]] w' fun (v :
 Go.Value) (w' : Go.World) => ∃ (x : Int), v = Go.Value.int Go.IntKind.i64 x ∧ bif Decidable.decide (x = (0 : Int)) then ∃ (x : Int), Go.World.cell? w' (Go.Addr.add (Go.Addr.mk g (0 : Nat) Option.none)
 (0 : Nat)) = Option.some (Go.Value.int Go.IntKind.i64 x) ∧ ∃ (x_62 : Int), Go.World.cell? w' (Go.Addr.add (Go.Addr.mk g (0 : Nat) Option.none) (1 : Nat)) = Option.some (Go.Value.int Go.IntKind.i64
 x_62) ∧ ∃ (x_63 : Int), Go.World.cell? w' (Go.Addr.add (Go.Addr.mk g (0 : Nat) Option.none) (2 : Nat)) = Option.some (Go.Value.int Go.IntKind.i64 x_63) ∧ ∃ (x_64 : Option Go.Addr), ∃ (x_65 : Nat), ∃
 (x_66 : Nat), Go.World.cell? w' (Go.Addr.add (Go.Addr.mk g (0 : Nat) Option.none) (3 : Nat)) = Option.some (Go.Value.slice x_64 x_65 x_66) ∧ ∃ (x_67 : Option Go.Addr), ∃ (x_68 : Nat), ∃ (x_69 : Nat),
 Go.World.cell? w' (Go.Addr.add (Go.Addr.mk g (0 : Nat) Option.none) (4 : Nat)) = Option.some (Go.Value.slice x_67 x_68 x_69) ∧ ∃ (x_70 : Option Go.Addr), ∃ (x_71 : Nat), ∃ (x_72 : Nat), Go.World.cell?
 w' (Go.Addr.add (Go.Addr.mk g (0 : Nat) Option.none) (5 : Nat)) = Option.some (Go.Value.slice x_70 x_71 x_72) ∧ ∃ (x_73 : Option Go.Addr), ∃ (x_74 : Nat), ∃ (x_75 : Nat), Go.World.cell? w' (Go.Addr.add
 (Go.Addr.mk g (0 : Nat) Option.none) (6 : Nat)) = Option.some (Go.Value.slice x_73 x_74 x_75) ∧ ∃ (x_76 : Option Go.Addr), ∃ (x_77 : Nat), ∃ (x_78 : Nat), Go.World.cell? w' (Go.Addr.add (Go.Addr.mk g
 (0 : Nat) Option.none) (7 : Nat)) = Option.some (Go.Value.slice x_76 x_77 x_78) ∧ ∃ (x_79 : Option Go.Addr), ∃ (x_80 : Nat), ∃ (x_81 : Nat), Go.World.cell? w' (Go.Addr.add (Go.Addr.mk g (0 : Nat)
 Option.none) (8 : Nat)) = Option.some (Go.Value.slice x_79 x_80 x_81) ∧ Go.Sx.CallsV Go.Proofs.Tryd.prog (8 : Nat) #[Go.Value.agg #[Go.Value.int Go.IntKind.i64 x, Go.Value.int Go.IntKind.i64 x_62,
 Go.Value.int Go.IntKind.i64 x_63, Go.Value.slice x_64 x_65 x_66, Go.Value.slice x_67 x_68 x_69, Go.Value.slice x_70 x_71 x_72, Go.Value.slice x_73 x_74 x_75, Go.Value.slice x_76 x_77 x_78,
 Go.Value.slice x_79 x_80 x_81]] w' fun (v : Go.Value) (w' : Go.World) => ∃ (x : Int), v = Go.Value.int Go.IntKind.i64 x ∧ bif Decidable.decide (x = (140 : Int)) then ∃ (x : Int), Go.World.cell? w'
 (Go.Addr.add (Go.Addr.mk g_2 (0 : Nat) Option.none) (0 : Nat)) = Option.some (Go.Value.int Go.IntKind.i64 x) ∧ ∃ (x_82 : Int), Go.World.cell? w' (Go.Addr.add (Go.Addr.mk g_2 (0 : Nat) Option.none) (1 :
 Nat)) = Option.some (Go.Value.int Go.IntKind.i64 x_82) ∧ ∃ (x_83 : Int), Go.World.cell? w' (Go.Addr.add (Go.Addr.mk g_2 (0 : Nat) Option.none) (2 : Nat)) = Option.some (Go.Value.int Go.IntKind.i64
 x_83) ∧ ∃ (x_84 : Option Go.Addr), ∃ (x_85 : Nat), ∃ (x_86 : Nat), Go.World.cell? w' (Go.Addr.add (Go.Addr.mk g_2 (0 : Nat) Option.none) (3 : Nat)) = Option.some (Go.Value.slice x_84 x_85 x_86) ∧ ∃
 (x_87 : Option Go.Addr), ∃ (x_88 : Nat), ∃ (x_89 : Nat), Go.World.cell? w' (Go.Addr.add (Go.Addr.mk g_2 (0 : Nat) Option.none) (4 : Nat)) = Option.some (Go.Value.slice x_87 x_88 x_89) ∧ ∃ (x_90 :
 Option Go.Addr), ∃ (x_91 : Nat), ∃ (x_92 : Nat), Go.World.cell? w' (Go.Addr.add (Go.Addr.mk g_2 (0 : Nat) Option.none) (5 : Nat)) = Option.some (Go.Value.slice x_90 x_91 x_92) ∧ ∃ (x_93 : Option
 Go.Addr), ∃ (x_94 : Nat), ∃ (x_95 : Nat), Go.World.cell? w' (Go.Addr.add (Go.Addr.mk g_2 (0 : Nat) Option.none) (6 : Nat)) = Option.some (Go.Value.slice x_93 x_94 x_95) ∧ ∃ (x_96 : Option Go.Addr), ∃
 (x_97 : Nat), ∃ (x_98 : Nat), Go.World.cell? w' (Go.Addr.add (Go.Addr.mk g_2 (0 : Nat) Option.none) (7 : Nat)) = Option.some (Go.Value.slice x_96 x_97 x_98) ∧ ∃ (x_99 : Option Go.Addr), ∃ (x_100 :
 Nat), ∃ (x_101 : Nat), Go.World.cell? w' (Go.Addr.add (Go.Addr.mk g_2 (0 : Nat) Option.none) (8 : Nat)) = Option.some (Go.Value.slice x_99 x_100 x_101) ∧ Go.Sx.CallsV Go.Proofs.Tryd.prog (8 : Nat)
 #[Go.Value.agg #[Go.Value.int Go.IntKind.i64 x, Go.Value.int Go.IntKind.i64 x_82, Go.Value.int Go.IntKind.i64 x_83, Go.Value.slice x_84 x_85 x_86, Go.Value.slice x_87 x_88 x_89, Go.Value.slice x_90
 x_91 x_92, Go.Value.slice x_93 x_94 x_95, Go.Value.slice x_96 x_97 x_98, Go.Value.slice x_99 x_100 x_101]] w' fun (v : Go.Value) (w' : Go.World) => ∃ (x : Int), v = Go.Value.int Go.IntKind.i64 x ∧ K
 (Go.Value.bool (Decidable.decide (x = (0 : Int)))) w' else K (Go.Value.bool Bool.false) w' else K (Go.Value.bool Bool.false) w' else K (Go.Value.bool Bool.false) w') ∧ ∀ (g : Nat) (w'_2 : Go.World),
 Go.Sx.Fresh (Go.World.drew w') g w'_2 [Go.Value.int Go.IntKind.i64 (0 : Int), Go.Value.int Go.IntKind.i64 (0 : Int), Go.Value.int Go.IntKind.i64 (0 : Int), Go.Value.slice Option.none (0 : Nat) (0 :
 Nat), Go.Value.slice Option.none (0 : Nat) (0 : Nat), Go.Value.slice Option.none (0 : Nat) (0 : Nat), Go.Value.slice Option.none (0 : Nat) (0 : Nat), Go.Value.slice Option.none (0 : Nat) (0 : Nat),
 Go.Value.slice Option.none (0 : Nat) (0 : Nat)] (29 : Nat) → S w'_2 ∧ ∀ (g_2 : Nat) (w' : Go.World), Go.Sx.Fresh w'_2 g_2 w' [Go.Value.int Go.IntKind.i64 (0 : Int), Go.Value.int Go.IntKind.i64 (0 :
 Int), Go.Value.int Go.IntKind.i64 (0 : Int), Go.Value.slice Option.none (0 : Nat) (0 : Nat), Go.Value.slice Option.none (0 : Nat) (0 : Nat), Go.Value.slice Option.none (0 : Nat) (0 : Nat),
 Go.Value.slice Option.none (0 : Nat) (0 : Nat), Go.Value.slice Option.none (0 : Nat) (0 : Nat), Go.Value.slice Option.none (0 : Nat) (0 : Nat)] (29 : Nat) → S w' ∧ Go.Sx.stOK (Go.Addr.mk g_2 (0 : Nat)
 Option.none) (0 : Nat) [Go.Value.int Go.IntKind.i64 x, Go.Value.int Go.IntKind.i64 x_1, Go.Value.int Go.IntKind.i64 x_2, Go.Value.slice x_3 x_4 x_5, Go.Value.slice x_6 x_7 x_8, Go.Value.slice x_9 x_10
 x_11, Go.Value.slice x_12 x_13 x_14, Go.Value.slice x_15 x_16 x_17, Go.Value.slice x_18 x_19 x_20] w' ∧ ∀ (w'_3 : Go.World), w'_3 = Go.Sx.setAll (Go.Addr.mk g_2 (0 : Nat) Option.none) (0 : Nat)
 [Go.Value.int Go.IntKind.i64 x, Go.Value.int Go.IntKind.i64 x_1, Go.Value.int Go.IntKind.i64 x_2, Go.Value.slice x_3 x_4 x_5, Go.Value.slice x_6 x_7 x_8, Go.Value.slice x_9 x_10 x_11, Go.Value.slice
 x_12 x_13 x_14, Go.Value.slice x_15 x_16 x_17, Go.Value.slice x_18 x_19 x_20] w' → S w'_3 ∧ Go.Sx.stOK (Go.Addr.mk g (0 : Nat) Option.none) (0 : Nat) [Go.Value.int Go.IntKind.i64 x_21, Go.Value.int
 Go.IntKind.i64 x_22, Go.Value.int Go.IntKind.i64 x_23, Go.Value.slice x_24 x_25 x_26, Go.Value.slice x_27 x_28 x_29, Go.Value.slice x_30 x_31 x_32, Go.Value.slice x_33 x_34 x_35, Go.Value.slice x_36
 x_37 x_38, Go.Value.slice x_39 x_40 x_41] w'_3 ∧ ∀ (w' : Go.World), w' = Go.Sx.setAll (Go.Addr.mk g (0 : Nat) Option.none) (0 : Nat) [Go.Value.int Go.IntKind.i64 x_21, Go.Value.int Go.IntKind.i64 x_22,
 Go.Value.int Go.IntKind.i64 x_23, Go.Value.slice x_24 x_25 x_26, Go.Value.slice x_27 x_28 x_29, Go.Value.slice x_30 x_31 x_32, Go.Value.slice x_33 x_34 x_35, Go.Value.slice x_36 x_37 x_38,
 Go.Value.slice x_39 x_40 x_41] w'_3 → ∀ (g_3 : Nat) (w'_4 : Go.World), Go.Sx.Fresh w' g_3 w'_4 [Go.Value.int Go.IntKind.u8 (10 : Int), Go.Value.int Go.IntKind.i64 (0 : Int), Go.Value.int Go.IntKind.i64
 (0 : Int), Go.Value.int Go.IntKind.i64 (0 : Int), Go.Value.int Go.IntKind.i64 (0 : Int), Go.Value.int Go.IntKind.u8 (35 : Int), Go.Value.int Go.IntKind.i64 (0 : Int), Go.Value.int Go.IntKind.i64 (0 :
 Int), Go.Value.int Go.IntKind.i64 (0 : Int), Go.Value.int Go.IntKind.i64 (0 : Int)] (38 : Nat) → Go.Sx.stOK (Go.Addr.add (Go.Addr.mk g_2 (0 : Nat) Option.none) (8 : Nat)) (0 : Nat) [Go.Value.slice
 (Option.some (Go.Addr.mk g_3 (0 : Nat) Option.none)) (2 : Nat) (2 : Nat)] w'_4 ∧ ∀ (w' : Go.World), w' = Go.Sx.setAll (Go.Addr.add (Go.Addr.mk g_2 (0 : Nat) Option.none) (8 : Nat)) (0 : Nat)
 [Go.Value.slice (Option.some (Go.Addr.mk g_3 (0 : Nat) Option.none)) (2 : Nat) (2 : Nat)] w'_4 → ∀ (g_4 : Nat) (w'_5 : Go.World), Go.Sx.Fresh w' g_4 w'_5 [Go.Value.int Go.IntKind.u8 (10 : Int),
 Go.Value.int Go.IntKind.i64 (1 : Int), Go.Value.int Go.IntKind.i64 (0 : Int), Go.Value.int Go.IntKind.i64 (0 : Int), Go.Value.int Go.IntKind.i64 (0 : Int), Go.Value.int Go.IntKind.u8 (35 : Int),
 Go.Value.int Go.IntKind.i64 (0 : Int), Go.Value.int Go.IntKind.i64 (0 : Int), Go.Value.int Go.IntKind.i64 (0 : Int), Go.Value.int Go.IntKind.i64 (0 : Int)] (38 : Nat) → Go.Sx.stOK (Go.Addr.add
 (Go.Addr.mk g (0 : Nat) Option.none) (8 : Nat)) (0 : Nat) [Go.Value.slice (Option.some (Go.Addr.mk g_4 (0 : Nat) Option.none)) (2 : Nat) (2 : Nat)] w'_5 ∧ ∀ (w' : Go.World), w' = Go.Sx.setAll
 (Go.Addr.add (Go.Addr.mk g (0 : Nat) Option.none) (8 : Nat)) (0 : Nat) [Go.Value.slice (Option.some (Go.Addr.mk g_4 (0 : Nat) Option.none)) (2 : Nat) (2 : Nat)] w'_5 → Go.Sx.CallsV Go.Proofs.Tryd.prog
 (11 : Nat) #[Go.Value.agg #[Go.Value.int Go.IntKind.u8 (4 : Int), Go.Value.int Go.IntKind.i64 (2 : Int), Go.Value.int Go.IntKind.i64 (0 : Int), Go.Value.int Go.IntKind.i64 (1 : Int), Go.Value.int
 Go.IntKind.i64 (6 : Int)]] w' fun (v : Go.Value) (w' : Go.World) => ∃ (x : ByteArray), v = Go.Value.string x ∧ bif ByteArray.toList x == ByteArray.toList (ByteArray.mk #[(116 : UInt8), (119 : UInt8),
 (111 : UInt8), (32 : UInt8), (50 : UInt8), (32 : UInt8), (48 : UInt8), (32 : UInt8), (49 : UInt8), (32 : UInt8), (54 : UInt8)]) then ∃ (x : Int), Go.World.cell? w' (Go.Addr.add (Go.Addr.mk g_1 (0 :
 Nat) Option.none) (0 : Nat)) = Option.some (Go.Value.int Go.IntKind.i64 x) ∧ ∃ (x_42 : Int), Go.World.cell? w' (Go.Addr.add (Go.Addr.mk g_1 (0 : Nat) Option.none) (1 : Nat)) = Option.some (Go.Value.int
 Go.IntKind.i64 x_42) ∧ ∃ (x_43 : Int), Go.World.cell? w' (Go.Addr.add (Go.Addr.mk g_1 (0 : Nat) Option.none) (2 : Nat)) = Option.some (Go.Value.int Go.IntKind.i64 x_43) ∧ ∃ (x_44 : Option Go.Addr), ∃
 (x_45 : Nat), ∃ (x_46 : Nat), Go.World.cell? w' (Go.Addr.add (Go.Addr.mk g_1 (0 : Nat) Option.none) (3 : Nat)) = Option.some (Go.Value.slice x_44 x_45 x_46) ∧ ∃ (x_47 : Option Go.Addr), ∃ (x_48 : Nat),
 ∃ (x_49 : Nat), Go.World.cell? w' (Go.Addr.add (Go.Addr.mk g_1 (0 : Nat) Option.none) (4 : Nat)) = Option.some (Go.Value.slice x_47 x_48 x_49) ∧ ∃ (x_50 : Option Go.Addr), ∃ (x_51 : Nat), ∃ (x_52 :
 Nat), Go.World.cell? w' (Go.Addr.add (Go.Addr.mk g_1 (0 : Nat) Option.none) (5 : Nat)) = Option.some (Go.Value.slice x_50 x_51 x_52) ∧ ∃ (x_53 : Option Go.Addr), ∃ (x_54 : Nat), ∃ (x_55 : Nat),
 Go.World.cell? w' (Go.Addr.add (Go.Addr.mk g_1 (0 : Nat) Option.none) (6 : Nat)) = Option.some (Go.Value.slice x_53 x_54 x_55) ∧ ∃ (x_56 : Option Go.Addr), ∃ (x_57 : Nat), ∃ (x_58 : Nat),
 Go.World.cell? w' (Go.Addr.add (Go.Addr.mk g_1 (0 : Nat) Option.none) (7 : Nat)) = Option.some (Go.Value.slice x_56 x_57 x_58) ∧ ∃ (x_59 : Option Go.Addr), ∃ (x_60 : Nat), ∃ (x_61 : Nat),
 Go.World.cell? w' (Go.Addr.add (Go.Addr.mk g_1 (0 : Nat) Option.none) (8 : Nat)) = Option.some (Go.Value.slice x_59 x_60 x_61) ∧ Go.Sx.CallsV Go.Proofs.Tryd.prog (8 : Nat) #[Go.Value.agg #[Go.Value.int
 Go.IntKind.i64 x, Go.Value.int Go.IntKind.i64 x_42, Go.Value.int Go.IntKind.i64 x_43, Go.Value.slice x_44 x_45 x_46, Go.Value.slice x_47 x_48 x_49, Go.Value.slice x_50 x_51 x_52, Go.Value.slice x_53
 x_54 x_55, Go.Value.slice x_56 x_57 x_58, Go.Value.slice x_59 x_60 x_61]] w' fun (v : Go.Value) (w' : Go.World) => ∃ (x : Int), v = Go.Value.int Go.IntKind.i64 x ∧ bif Decidable.decide (x = (0 : Int))
 then ∃ (x : Int), Go.World.cell? w' (Go.Addr.add (Go.Addr.mk g_2 (0 : Nat) Option.none) (0 : Nat)) = Option.some (Go.Value.int Go.IntKind.i64 x) ∧ ∃ (x_62 : Int), Go.World.cell? w' (Go.Addr.add
 (Go.Addr.mk g_2 (0 : Nat) Option.none) (1 : Nat)) = Option.some (Go.Value.int Go.IntKind.i64 x_62) ∧ ∃ (x_63 : Int), Go.World.cell? w' (Go.Addr.add (Go.Addr.mk g_2 (0 : Nat) Option.none) (2 : Nat)) =
 Option.some (Go.Value.int Go.IntKind.i64 x_63) ∧ ∃ (x_64 : Option Go.Addr), ∃ (x_65 : Nat), ∃ (x_66 : Nat), Go.World.cell? w' (Go.Addr.add (Go.Addr.mk g_2 (0 : Nat) Option.none) (3 : Nat)) =
 Option.some (Go.Value.slice x_64 x_65 x_66) ∧ ∃ (x_67 : Option Go.Addr), ∃ (x_68 : Nat), ∃ (x_69 : Nat), Go.World.cell? w' (Go.Addr.add (Go.Addr.mk g_2 (0 : Nat) Option.none) (4 : Nat)) = Option.some
 (Go.Value.slice x_67 x_68 x_69) ∧ ∃ (x_70 : Option Go.Addr), ∃ (x_71 : Nat), ∃ (x_72 : Nat), Go.World.cell? w' (Go.Addr.add (Go.Addr.mk g_2 (0 : Nat) Option.none) (5 : Nat)) = Option.some
 (Go.Value.slice x_70 x_71 x_72) ∧ ∃ (x_73 : Option Go.Addr), ∃ (x_74 : Nat), ∃ (x_75 : Nat), Go.World.cell? w' (Go.Addr.add (Go.Addr.mk g_2 (0 : Nat) Option.none) (6 : Nat)) = Option.some
 (Go.Value.slice x_73 x_74 x_75) ∧ ∃ (x_76 : Option Go.Addr), ∃ (x_77 : Nat), ∃ (x_78 : Nat), Go.World.cell? w' (Go.Addr.add (Go.Addr.mk g_2 (0 : Nat) Option.none) (7 : Nat)) = Option.some
 (Go.Value.slice x_76 x_77 x_78) ∧ ∃ (x_79 : Option Go.Addr), ∃ (x_80 : Nat), ∃ (x_81 : Nat), Go.World.cell? w' (Go.Addr.add (Go.Addr.mk g_2 (0 : Nat) Option.none) (8 : Nat)) = Option.some
 (Go.Value.slice x_79 x_80 x_81) ∧ Go.Sx.CallsV Go.Proofs.Tryd.prog (8 : Nat) #[Go.Value.agg #[Go.Value.int Go.IntKind.i64 x, Go.Value.int Go.IntKind.i64 x_62, Go.Value.int Go.IntKind.i64 x_63,
 Go.Value.slice x_64 x_65 x_66, Go.Value.slice x_67 x_68 x_69, Go.Value.slice x_70 x_71 x_72, Go.Value.slice x_73 x_74 x_75, Go.Value.slice x_76 x_77 x_78, Go.Value.slice x_79 x_80 x_81]] w' fun (v :
 Go.Value) (w' : Go.World) => ∃ (x : Int), v = Go.Value.int Go.IntKind.i64 x ∧ bif Decidable.decide (x = (140 : Int)) then ∃ (x : Int), Go.World.cell? w' (Go.Addr.add (Go.Addr.mk g (0 : Nat)
 Option.none) (0 : Nat)) = Option.some (Go.Value.int Go.IntKind.i64 x) ∧ ∃ (x_82 : Int), Go.World.cell? w' (Go.Addr.add (Go.Addr.mk g (0 : Nat) Option.none) (1 : Nat)) = Option.some (Go.Value.int
 Go.IntKind.i64 x_82) ∧ ∃ (x_83 : Int), Go.World.cell? w' (Go.Addr.add (Go.Addr.mk g (0 : Nat) Option.none) (2 : Nat)) = Option.some (Go.Value.int Go.IntKind.i64 x_83) ∧ ∃ (x_84 : Option Go.Addr), ∃
 (x_85 : Nat), ∃ (x_86 : Nat), Go.World.cell? w' (Go.Addr.add (Go.Addr.mk g (0 : Nat) Option.none) (3 : Nat)) = Option.some (Go.Value.slice x_84 x_85 x_86) ∧ ∃ (x_87 : Option Go.Addr), ∃ (x_88 : Nat), ∃
 (x_89 : Nat), Go.World.cell? w' (Go.Addr.add (Go.Addr.mk g (0 : Nat) Option.none) (4 : Nat)) = Option.some (Go.Value.slice x_87 x_88 x_89) ∧ ∃ (x_90 : Option Go.Addr), ∃ (x_91 : Nat), ∃ (x_92 : Nat),
 Go.World.cell? w' (Go.Addr.add (Go.Addr.mk g (0 : Nat) Option.none) (5 : Nat)) = Option.some (Go.Value.slice x_90 x_91 x_92) ∧ ∃ (x_93 : Option Go.Addr), ∃ (x_94 : Nat), ∃ (x_95 : Nat), Go.World.cell?
 w' (Go.Addr.add (Go.Addr.mk g (0 : Nat) Option.none) (6 : Nat)) = Option.some (Go.Value.slice x_93 x_94 x_95) ∧ ∃ (x_96 : Option Go.Addr), ∃ (x_97 : Nat), ∃ (x_98 : Nat), Go.World.cell? w' (Go.Addr.add
 (Go.Addr.mk g (0 : Nat) Option.none) (7 : Nat)) = Option.some (Go.Value.slice x_96 x_97 x_98) ∧ ∃ (x_99 : Option Go.Addr), ∃ (x_100 : Nat), ∃ (x_101 : Nat), Go.World.cell? w' (Go.Addr.add (Go.Addr.mk g
 (0 : Nat) Option.none) (8 : Nat)) = Option.some (Go.Value.slice x_99 x_100 x_101) ∧ Go.Sx.CallsV Go.Proofs.Tryd.prog (8 : Nat) #[Go.Value.agg #[Go.Value.int Go.IntKind.i64 x, Go.Value.int
 Go.IntKind.i64 x_82, Go.Value.int Go.IntKind.i64 x_83, Go.Value.slice x_84 x_85 x_86, Go.Value.slice x_87 x_88 x_89, Go.Value.slice x_90 x_91 x_92, Go.Value.slice x_93 x_94 x_95, Go.Value.slice x_96
 x_97 x_98, Go.Value.slice x_99 x_100 x_101]] w' fun (v : Go.Value) (w' : Go.World) => ∃ (x : Int), v = Go.Value.int Go.IntKind.i64 x ∧ K (Go.Value.bool (Decidable.decide (x = (0 : Int)))) w' else K
 (Go.Value.bool Bool.false) w' else K (Go.Value.bool Bool.false) w' else K (Go.Value.bool Bool.false) w'
theorem cardindexlaw15_awake.eq  (w : World) (K : Value → World → Prop) : cardindexlaw15_awake.W  w K = fnW Tryd.prog Tryd.f9 (.named .auto) [] w K := by kernel_rfl
theorem cardindexlaw15_awake.calls (ok : Okay Tryd.prog)  {w : World} {K : Value → World → Prop} (h : cardindexlaw15_awake.W  w K) : CallsV Tryd.prog 9 #[] w K :=
  fnW_calls ok Tryd.func9 (an := (.named .auto)) (args := []) (by rw [← cardindexlaw15_awake.eq]; exact h)
noncomputable def cardindexlaw15_CodeForward.W : Int → Int → Int → Option Addr → Nat → Nat → Option Addr → Nat → Nat → Option Addr → Nat → Nat → Option Addr → Nat → Nat → Option Addr → Nat → Nat →
 Option Addr → Nat → Nat → World → (Value → World → Prop) → Prop := fun (p0 p1 p2 : Int) (p3_A : Option Go.Addr) (p3_n p3_c : Nat) (p4_A : Option Go.Addr) (p4_n p4_c : Nat) (p5_A : Option Go.Addr) (p5_n
 p5_c : Nat) (p6_A : Option Go.Addr) (p6_n p6_c : Nat) (p7_A : Option Go.Addr) (p7_n p7_c : Nat) (p8_A : Option Go.Addr) (p8_n p8_c : Nat) (w : Go.World) (K : Go.Value → Go.World → Prop) => ∀ (g : Nat)
 (w' : Go.World), Go.Sx.Fresh w g w' [Go.Value.int Go.IntKind.i64 p0, Go.Value.int Go.IntKind.i64 p1, Go.Value.int Go.IntKind.i64 p2, Go.Value.slice p3_A p3_n p3_c, Go.Value.slice p4_A p4_n p4_c,
 Go.Value.slice p5_A p5_n p5_c, Go.Value.slice p6_A p6_n p6_c, Go.Value.slice p7_A p7_n p7_c, Go.Value.slice p8_A p8_n p8_c] (29 : Nat) → ∃ (x : Int), Go.World.cell? w' (Go.Addr.add (Go.Addr.mk g (0 :
 Nat) Option.none) (0 : Nat)) = Option.some (Go.Value.int Go.IntKind.i64 x) ∧ ∃ (x_1 : Int), Go.World.cell? w' (Go.Addr.add (Go.Addr.mk g (0 : Nat) Option.none) (1 : Nat)) = Option.some (Go.Value.int
 Go.IntKind.i64 x_1) ∧ ∃ (x_2 : Int), Go.World.cell? w' (Go.Addr.add (Go.Addr.mk g (0 : Nat) Option.none) (2 : Nat)) = Option.some (Go.Value.int Go.IntKind.i64 x_2) ∧ ∃ (x_3 : Option Go.Addr), ∃ (x_4 :
 Nat), ∃ (x_5 : Nat), Go.World.cell? w' (Go.Addr.add (Go.Addr.mk g (0 : Nat) Option.none) (3 : Nat)) = Option.some (Go.Value.slice x_3 x_4 x_5) ∧ ∃ (x_6 : Option Go.Addr), ∃ (x_7 : Nat), ∃ (x_8 : Nat),
 Go.World.cell? w' (Go.Addr.add (Go.Addr.mk g (0 : Nat) Option.none) (4 : Nat)) = Option.some (Go.Value.slice x_6 x_7 x_8) ∧ ∃ (x_9 : Option Go.Addr), ∃ (x_10 : Nat), ∃ (x_11 : Nat), Go.World.cell? w'
 (Go.Addr.add (Go.Addr.mk g (0 : Nat) Option.none) (5 : Nat)) = Option.some (Go.Value.slice x_9 x_10 x_11) ∧ ∃ (x_12 : Option Go.Addr), ∃ (x_13 : Nat), ∃ (x_14 : Nat), Go.World.cell? w' (Go.Addr.add
 (Go.Addr.mk g (0 : Nat) Option.none) (6 : Nat)) = Option.some (Go.Value.slice x_12 x_13 x_14) ∧ ∃ (x_15 : Option Go.Addr), ∃ (x_16 : Nat), ∃ (x_17 : Nat), Go.World.cell? w' (Go.Addr.add (Go.Addr.mk g
 (0 : Nat) Option.none) (7 : Nat)) = Option.some (Go.Value.slice x_15 x_16 x_17) ∧ ∃ (x_18 : Option Go.Addr), ∃ (x_19 : Nat), ∃ (x_20 : Nat), Go.World.cell? w' (Go.Addr.add (Go.Addr.mk g (0 : Nat)
 Option.none) (8 : Nat)) = Option.some (Go.Value.slice x_18 x_19 x_20) ∧ Go.Sx.CallsV Go.Proofs.Tryd.prog (7 : Nat) #[Go.Value.agg #[Go.Value.int Go.IntKind.i64 x, Go.Value.int Go.IntKind.i64 x_1,
 Go.Value.int Go.IntKind.i64 x_2, Go.Value.slice x_3 x_4 x_5, Go.Value.slice x_6 x_7 x_8, Go.Value.slice x_9 x_10 x_11, Go.Value.slice x_12 x_13 x_14, Go.Value.slice x_15 x_16 x_17, Go.Value.slice x_18
 x_19 x_20]] w' fun (v : Go.Value) (w' : Go.World) => ∃ (x : Bool), v = Go.Value.bool x ∧ bif x then Go.Sx.CallsV Go.Proofs.Tryd.prog (9 : Nat) #[] w' fun (v : Go.Value) (w' : Go.World) => ∃ (x : Bool),
 v = Go.Value.bool x ∧ K (Go.Value.bool x) w' else ∃ (x : Int), Go.World.cell? w' (Go.Addr.add (Go.Addr.mk g (0 : Nat) Option.none) (0 : Nat)) = Option.some (Go.Value.int Go.IntKind.i64 x) ∧ ∃ (x_21 :
 Int), Go.World.cell? w' (Go.Addr.add (Go.Addr.mk g (0 : Nat) Option.none) (1 : Nat)) = Option.some (Go.Value.int Go.IntKind.i64 x_21) ∧ ∃ (x_22 : Int), Go.World.cell? w' (Go.Addr.add (Go.Addr.mk g (0 :
 Nat) Option.none) (2 : Nat)) = Option.some (Go.Value.int Go.IntKind.i64 x_22) ∧ ∃ (x_23 : Option Go.Addr), ∃ (x_24 : Nat), ∃ (x_25 : Nat), Go.World.cell? w' (Go.Addr.add (Go.Addr.mk g (0 : Nat)
 Option.none) (3 : Nat)) = Option.some (Go.Value.slice x_23 x_24 x_25) ∧ ∃ (x_26 : Option Go.Addr), ∃ (x_27 : Nat), ∃ (x_28 : Nat), Go.World.cell? w' (Go.Addr.add (Go.Addr.mk g (0 : Nat) Option.none) (4
 : Nat)) = Option.some (Go.Value.slice x_26 x_27 x_28) ∧ ∃ (x_29 : Option Go.Addr), ∃ (x_30 : Nat), ∃ (x_31 : Nat), Go.World.cell? w' (Go.Addr.add (Go.Addr.mk g (0 : Nat) Option.none) (5 : Nat)) =
 Option.some (Go.Value.slice x_29 x_30 x_31) ∧ ∃ (x_32 : Option Go.Addr), ∃ (x_33 : Nat), ∃ (x_34 : Nat), Go.World.cell? w' (Go.Addr.add (Go.Addr.mk g (0 : Nat) Option.none) (6 : Nat)) = Option.some
 (Go.Value.slice x_32 x_33 x_34) ∧ ∃ (x_35 : Option Go.Addr), ∃ (x_36 : Nat), ∃ (x_37 : Nat), Go.World.cell? w' (Go.Addr.add (Go.Addr.mk g (0 : Nat) Option.none) (7 : Nat)) = Option.some (Go.Value.slice
 x_35 x_36 x_37) ∧ ∃ (x_38 : Option Go.Addr), ∃ (x_39 : Nat), ∃ (x_40 : Nat), Go.World.cell? w' (Go.Addr.add (Go.Addr.mk g (0 : Nat) Option.none) (8 : Nat)) = Option.some (Go.Value.slice x_38 x_39 x_40)
 ∧ Go.Sx.CallsV Go.Proofs.Tryd.prog (8 : Nat) #[Go.Value.agg #[Go.Value.int Go.IntKind.i64 x, Go.Value.int Go.IntKind.i64 x_21, Go.Value.int Go.IntKind.i64 x_22, Go.Value.slice x_23 x_24 x_25,
 Go.Value.slice x_26 x_27 x_28, Go.Value.slice x_29 x_30 x_31, Go.Value.slice x_32 x_33 x_34, Go.Value.slice x_35 x_36 x_37, Go.Value.slice x_38 x_39 x_40]] w' fun (v : Go.Value) (w' : Go.World) => ∃ (x
 : Int), v = Go.Value.int Go.IntKind.i64 x ∧ bif !Decidable.decide (x = (0 : Int)) then Go.Sx.CallsV Go.Proofs.Tryd.prog (9 : Nat) #[] w' fun (v : Go.Value) (w' : Go.World) => ∃ (x : Bool), v =
 Go.Value.bool x ∧ K (Go.Value.bool x) w' else ∃ (x : Option Go.Addr), ∃ (x_41 : Nat), ∃ (x_42 : Nat), Go.World.cell? w' (Go.Addr.add (Go.Addr.mk g (0 : Nat) Option.none) (8 : Nat)) = Option.some
 (Go.Value.slice x x_41 x_42) ∧ ∃ (I : Int → Go.World → Prop), ∃ (μ : Int → Go.World → Nat), I (0 : Int) w' ∧ ∀ (x_43 : Int) (w : Go.World), I x_43 w → bif Decidable.decide (x_43 < (↑x_41 : Int)) then ∃
 (J : Go.World → Prop), (∀ (w_1 : Go.World), J w_1 → I (Go.IntKind.wrap Go.IntKind.i64 (x_43 + (1 : Int))) w_1 ∧ μ (Go.IntKind.wrap Go.IntKind.i64 (x_43 + (1 : Int))) w_1 < μ x_43 w) ∧ ∃ (ad : Go.Addr),
 x = Option.some ad ∧ ((0 : Int) ≤ x_43 ∧ x_43 < (↑x_41 : Int)) ∧ ∃ (x : Int), Go.World.cell? w (Go.Addr.add (Go.Addr.add ad (Int.toNat x_43 * (5 : Nat))) (0 : Nat)) = Option.some (Go.Value.int
 Go.IntKind.u8 x) ∧ ∃ (x_44 : Int), Go.World.cell? w (Go.Addr.add (Go.Addr.add ad (Int.toNat x_43 * (5 : Nat))) (1 : Nat)) = Option.some (Go.Value.int Go.IntKind.i64 x_44) ∧ ∃ (x_45 : Int),
 Go.World.cell? w (Go.Addr.add (Go.Addr.add ad (Int.toNat x_43 * (5 : Nat))) (2 : Nat)) = Option.some (Go.Value.int Go.IntKind.i64 x_45) ∧ ∃ (x_46 : Int), Go.World.cell? w (Go.Addr.add (Go.Addr.add ad
 (Int.toNat x_43 * (5 : Nat))) (3 : Nat)) = Option.some (Go.Value.int Go.IntKind.i64 x_46) ∧ ∃ (x_47 : Int), Go.World.cell? w (Go.Addr.add (Go.Addr.add ad (Int.toNat x_43 * (5 : Nat))) (4 : Nat)) =
 Option.some (Go.Value.int Go.IntKind.i64 x_47) ∧ ∀ (g_1 : Nat) (w' : Go.World), Go.Sx.Fresh w g_1 w' [Go.Value.int Go.IntKind.u8 (0 : Int), Go.Value.int Go.IntKind.i64 (0 : Int), Go.Value.int
 Go.IntKind.i64 (0 : Int), Go.Value.int Go.IntKind.i64 (0 : Int), Go.Value.int Go.IntKind.i64 (0 : Int)] (38 : Nat) → Go.Sx.stOK (Go.Addr.mk g_1 (0 : Nat) Option.none) (0 : Nat) [Go.Value.int
 Go.IntKind.u8 x, Go.Value.int Go.IntKind.i64 x_44, Go.Value.int Go.IntKind.i64 x_45, Go.Value.int Go.IntKind.i64 x_46, Go.Value.int Go.IntKind.i64 x_47] w' ∧ ∀ (w'_1 : Go.World), w'_1 = Go.Sx.setAll
 (Go.Addr.mk g_1 (0 : Nat) Option.none) (0 : Nat) [Go.Value.int Go.IntKind.u8 x, Go.Value.int Go.IntKind.i64 x_44, Go.Value.int Go.IntKind.i64 x_45, Go.Value.int Go.IntKind.i64 x_46, Go.Value.int
 Go.IntKind.i64 x_47] w' → ∃ (J_1 : Int → Go.World → Prop), (∀ (x : Int) (w : Go.World), J_1 x w → bif Decidable.decide (x ≤ x_43) then K (Go.Value.bool Bool.false) w else ∃ (x_48 : Option Go.Addr), ∃
 (x_49 : Nat), ∃ (x_50 : Nat), Go.World.cell? w (Go.Addr.add (Go.Addr.mk g (0 : Nat) Option.none) (8 : Nat)) = Option.some (Go.Value.slice x_48 x_49 x_50) ∧ bif Decidable.decide ((↑x_49 : Int) ≤ x) then
 K (Go.Value.bool Bool.false) w else J w) ∧ ∃ (x : Int), Go.World.cell? w'_1 (Go.Addr.add (Go.Addr.mk g_1 (0 : Nat) Option.none) (0 : Nat)) = Option.some (Go.Value.int Go.IntKind.u8 x) ∧ ∃ (J_2 : Bool →
 Go.World → Prop), (∀ (x_48 : Bool) (w : Go.World), J_2 x_48 w → bif x_48 then ∃ (x : Int), Go.World.cell? w (Go.Addr.add (Go.Addr.mk g_1 (0 : Nat) Option.none) (1 : Nat)) = Option.some (Go.Value.int
 Go.IntKind.i64 x) ∧ J_1 x w else ∃ (J_3 : Bool → Go.World → Prop), (∀ (x_49 : Bool) (w : Go.World), J_3 x_49 w → bif x_49 then ∃ (x : Int), Go.World.cell? w (Go.Addr.add (Go.Addr.mk g_1 (0 : Nat)
 Option.none) (2 : Nat)) = Option.some (Go.Value.int Go.IntKind.i64 x) ∧ J_1 x w else bif Decidable.decide (x = (15 : Int)) then bif Decidable.decide (x = (15 : Int)) then ∃ (x : Int), Go.World.cell? w
 (Go.Addr.add (Go.Addr.mk g_1 (0 : Nat) Option.none) (2 : Nat)) = Option.some (Go.Value.int Go.IntKind.i64 x) ∧ bif Decidable.decide (x < (1 : Int)) then K (Go.Value.bool Bool.false) w else ∃ (x : Int),
 Go.World.cell? w (Go.Addr.add (Go.Addr.mk g_1 (0 : Nat) Option.none) (2 : Nat)) = Option.some (Go.Value.int Go.IntKind.i64 x) ∧ bif Decidable.decide (x_43 < x) then K (Go.Value.bool Bool.false) w else
 J_1 (Go.IntKind.wrap Go.IntKind.i64 (x_43 + (1 : Int))) w else bif Decidable.decide (x = (35 : Int)) then J w else J_1 (Go.IntKind.wrap Go.IntKind.i64 (x_43 + (1 : Int))) w else bif Decidable.decide (x
 = (22 : Int)) then ∃ (x : Int), Go.World.cell? w (Go.Addr.add (Go.Addr.mk g_1 (0 : Nat) Option.none) (2 : Nat)) = Option.some (Go.Value.int Go.IntKind.i64 x) ∧ bif Decidable.decide (x < (1 : Int)) then
 K (Go.Value.bool Bool.false) w else ∃ (x : Int), Go.World.cell? w (Go.Addr.add (Go.Addr.mk g_1 (0 : Nat) Option.none) (2 : Nat)) = Option.some (Go.Value.int Go.IntKind.i64 x) ∧ bif Decidable.decide
 (x_43 < x) then K (Go.Value.bool Bool.false) w else J_1 (Go.IntKind.wrap Go.IntKind.i64 (x_43 + (1 : Int))) w else bif Decidable.decide (x = (35 : Int)) then J w else J_1 (Go.IntKind.wrap
 Go.IntKind.i64 (x_43 + (1 : Int))) w) ∧ bif Decidable.decide (x = (13 : Int)) then J_3 (Decidable.decide (x = (13 : Int))) w else bif Decidable.decide (x = (14 : Int)) then J_3 (Decidable.decide (x =
 (14 : Int))) w else bif Decidable.decide (x = (16 : Int)) then J_3 (Decidable.decide (x = (16 : Int))) w else bif Decidable.decide (x = (17 : Int)) then J_3 (Decidable.decide (x = (17 : Int))) w else
 J_3 (Decidable.decide (x = (21 : Int))) w) ∧ bif Decidable.decide (x = (10 : Int)) then J_2 (Decidable.decide (x = (10 : Int))) w'_1 else bif Decidable.decide (x = (11 : Int)) then J_2
 (Decidable.decide (x = (11 : Int))) w'_1 else J_2 (Decidable.decide (x = (12 : Int))) w'_1 else ∃ (x : Option Go.Addr), ∃ (x_44 : Nat), ∃ (x_45 : Nat), Go.World.cell? w (Go.Addr.add (Go.Addr.mk g (0 :
 Nat) Option.none) (8 : Nat)) = Option.some (Go.Value.slice x x_44 x_45) ∧ ∃ (x_46 : Option Go.Addr), ∃ (x_47 : Nat), ∃ (x_48 : Nat), Go.World.cell? w (Go.Addr.add (Go.Addr.mk g (0 : Nat) Option.none)
 (8 : Nat)) = Option.some (Go.Value.slice x_46 x_47 x_48) ∧ ∃ (ad : Go.Addr), x = Option.some ad ∧ ((0 : Int) ≤ Go.IntKind.wrap Go.IntKind.i64 ((↑x_47 : Int) - (1 : Int)) ∧ Go.IntKind.wrap
 Go.IntKind.i64 ((↑x_47 : Int) - (1 : Int)) < (↑x_44 : Int)) ∧ ∃ (x : Int), Go.World.cell? w (Go.Addr.add (Go.Addr.add ad (Int.toNat (Go.IntKind.wrap Go.IntKind.i64 ((↑x_47 : Int) - (1 : Int))) * (5 :
 Nat))) (0 : Nat)) = Option.some (Go.Value.int Go.IntKind.u8 x) ∧ bif Decidable.decide (x = (35 : Int)) then Go.Sx.CallsV Go.Proofs.Tryd.prog (9 : Nat) #[] w fun (v : Go.Value) (w' : Go.World) => ∃ (x :
 Bool), v = Go.Value.bool x ∧ K (Go.Value.bool x) w' else K (Go.Value.bool Bool.false) w
theorem cardindexlaw15_CodeForward.eq (p0 : Int) (p1 : Int) (p2 : Int) (p3_A : Option Addr) (p3_n : Nat) (p3_c : Nat) (p4_A : Option Addr) (p4_n : Nat) (p4_c : Nat) (p5_A : Option Addr) (p5_n : Nat) (p5_c : Nat) (p6_A : Option Addr) (p6_n : Nat) (p6_c : Nat) (p7_A : Option Addr) (p7_n : Nat) (p7_c : Nat) (p8_A : Option Addr) (p8_n : Nat) (p8_c : Nat) (w : World) (K : Value → World → Prop) : cardindexlaw15_CodeForward.W p0 p1 p2 p3_A p3_n p3_c p4_A p4_n p4_c p5_A p5_n p5_c p6_A p6_n p6_c p7_A p7_n p7_c p8_A p8_n p8_c w K = fnW Tryd.prog Tryd.f4 (.named (.seq .auto (.seq .auto (.seq (.seq .auto (.block (.loop [(17, .one (.int .i64))] (.seq .auto (.seq .auto (.join [] (.block (.seq .auto (.seq .auto (.join [(5, .one (.int .i64))] (.seq .auto (.block (.join [(26, .one .bool)] .auto (.cond .auto (.join [(32, .one .bool)] .auto .auto))))) .auto)))) .auto)))))) .auto)))) [.agg #[.int .i64 p0, .int .i64 p1, .int .i64 p2, .slice p3_A p3_n p3_c, .slice p4_A p4_n p4_c, .slice p5_A p5_n p5_c, .slice p6_A p6_n p6_c, .slice p7_A p7_n p7_c, .slice p8_A p8_n p8_c]] w K := by kernel_rfl
theorem cardindexlaw15_CodeForward.calls (ok : Okay Tryd.prog) {p0 : Int} {p1 : Int} {p2 : Int} {p3_A : Option Addr} {p3_n : Nat} {p3_c : Nat} {p4_A : Option Addr} {p4_n : Nat} {p4_c : Nat} {p5_A : Option Addr} {p5_n : Nat} {p5_c : Nat} {p6_A : Option Addr} {p6_n : Nat} {p6_c : Nat} {p7_A : Option Addr} {p7_n : Nat} {p7_c : Nat} {p8_A : Option Addr} {p8_n : Nat} {p8_c : Nat} {w : World} {K : Value → World → Prop} (h : cardindexlaw15_CodeForward.W p0 p1 p2 p3_A p3_n p3_c p4_A p4_n p4_c p5_A p5_n p5_c p6_A p6_n p6_c p7_A p7_n p7_c p8_A p8_n p8_c w K) : CallsV Tryd.prog 4 #[.agg #[.int .i64 p0, .int .i64 p1, .int .i64 p2, .slice p3_A p3_n p3_c, .slice p4_A p4_n p4_c, .slice p5_A p5_n p5_c, .slice p6_A p6_n p6_c, .slice p7_A p7_n p7_c, .slice p8_A p8_n p8_c]] w K :=
  fnW_calls ok Tryd.func4 (an := (.named (.seq .auto (.seq .auto (.seq (.seq .auto (.block (.loop [(17, .one (.int .i64))] (.seq .auto (.seq .auto (.join [] (.block (.seq .auto (.seq .auto (.join [(5, .one (.int .i64))] (.seq .auto (.block (.join [(26, .one .bool)] .auto (.cond .auto (.join [(32, .one .bool)] .auto .auto))))) .auto)))) .auto)))))) .auto))))) (args := [.agg #[.int .i64 p0, .int .i64 p1, .int .i64 p2, .slice p3_A p3_n p3_c, .slice p4_A p4_n p4_c, .slice p5_A p5_n p5_c, .slice p6_A p6_n p6_c, .slice p7_A p7_n p7_c, .slice p8_A p8_n p8_c]]) (by rw [← cardindexlaw15_CodeForward.eq]; exact h)
noncomputable def cardindexlaw15_CodeEnds.W : Int → Int → Int → Option Addr → Nat → Nat → Option Addr → Nat → Nat → Option Addr → Nat → Nat → Option Addr → Nat → Nat → Option Addr → Nat → Nat → Option
 Addr → Nat → Nat → Int → Int → World → (Value → World → Prop) → Prop := fun (p0 p1 p2 : Int) (p3_A : Option Go.Addr) (p3_n p3_c : Nat) (p4_A : Option Go.Addr) (p4_n p4_c : Nat) (p5_A : Option Go.Addr)
 (p5_n p5_c : Nat) (p6_A : Option Go.Addr) (p6_n p6_c : Nat) (p7_A : Option Go.Addr) (p7_n p7_c : Nat) (p8_A : Option Go.Addr) (p8_n p8_c : Nat) (atx field : Int) (w : Go.World) (K : Go.Value → Go.World
 → Prop) => ∀ (g : Nat) (w' : Go.World), Go.Sx.Fresh w g w' [Go.Value.int Go.IntKind.i64 p0, Go.Value.int Go.IntKind.i64 p1, Go.Value.int Go.IntKind.i64 p2, Go.Value.slice p3_A p3_n p3_c, Go.Value.slice
 p4_A p4_n p4_c, Go.Value.slice p5_A p5_n p5_c, Go.Value.slice p6_A p6_n p6_c, Go.Value.slice p7_A p7_n p7_c, Go.Value.slice p8_A p8_n p8_c] (29 : Nat) → ∃ (x : Int), Go.World.cell? w' (Go.Addr.add
 (Go.Addr.mk g (0 : Nat) Option.none) (0 : Nat)) = Option.some (Go.Value.int Go.IntKind.i64 x) ∧ ∃ (x_1 : Int), Go.World.cell? w' (Go.Addr.add (Go.Addr.mk g (0 : Nat) Option.none) (1 : Nat)) =
 Option.some (Go.Value.int Go.IntKind.i64 x_1) ∧ ∃ (x_2 : Int), Go.World.cell? w' (Go.Addr.add (Go.Addr.mk g (0 : Nat) Option.none) (2 : Nat)) = Option.some (Go.Value.int Go.IntKind.i64 x_2) ∧ ∃ (x_3 :
 Option Go.Addr), ∃ (x_4 : Nat), ∃ (x_5 : Nat), Go.World.cell? w' (Go.Addr.add (Go.Addr.mk g (0 : Nat) Option.none) (3 : Nat)) = Option.some (Go.Value.slice x_3 x_4 x_5) ∧ ∃ (x_6 : Option Go.Addr), ∃
 (x_7 : Nat), ∃ (x_8 : Nat), Go.World.cell? w' (Go.Addr.add (Go.Addr.mk g (0 : Nat) Option.none) (4 : Nat)) = Option.some (Go.Value.slice x_6 x_7 x_8) ∧ ∃ (x_9 : Option Go.Addr), ∃ (x_10 : Nat), ∃ (x_11
 : Nat), Go.World.cell? w' (Go.Addr.add (Go.Addr.mk g (0 : Nat) Option.none) (5 : Nat)) = Option.some (Go.Value.slice x_9 x_10 x_11) ∧ ∃ (x_12 : Option Go.Addr), ∃ (x_13 : Nat), ∃ (x_14 : Nat),
 Go.World.cell? w' (Go.Addr.add (Go.Addr.mk g (0 : Nat) Option.none) (6 : Nat)) = Option.some (Go.Value.slice x_12 x_13 x_14) ∧ ∃ (x_15 : Option Go.Addr), ∃ (x_16 : Nat), ∃ (x_17 : Nat), Go.World.cell?
 w' (Go.Addr.add (Go.Addr.mk g (0 : Nat) Option.none) (7 : Nat)) = Option.some (Go.Value.slice x_15 x_16 x_17) ∧ ∃ (x_18 : Option Go.Addr), ∃ (x_19 : Nat), ∃ (x_20 : Nat), Go.World.cell? w' (Go.Addr.add
 (Go.Addr.mk g (0 : Nat) Option.none) (8 : Nat)) = Option.some (Go.Value.slice x_18 x_19 x_20) ∧ Go.Sx.CallsV Go.Proofs.Tryd.prog (7 : Nat) #[Go.Value.agg #[Go.Value.int Go.IntKind.i64 x, Go.Value.int
 Go.IntKind.i64 x_1, Go.Value.int Go.IntKind.i64 x_2, Go.Value.slice x_3 x_4 x_5, Go.Value.slice x_6 x_7 x_8, Go.Value.slice x_9 x_10 x_11, Go.Value.slice x_12 x_13 x_14, Go.Value.slice x_15 x_16 x_17,
 Go.Value.slice x_18 x_19 x_20]] w' fun (v : Go.Value) (w' : Go.World) => ∃ (x : Bool), v = Go.Value.bool x ∧ bif x then Go.Sx.CallsV Go.Proofs.Tryd.prog (9 : Nat) #[] w' fun (v : Go.Value) (w' :
 Go.World) => ∃ (x : Bool), v = Go.Value.bool x ∧ K (Go.Value.bool x) w' else ∃ (x : Int), Go.World.cell? w' (Go.Addr.add (Go.Addr.mk g (0 : Nat) Option.none) (0 : Nat)) = Option.some (Go.Value.int
 Go.IntKind.i64 x) ∧ ∃ (x_21 : Int), Go.World.cell? w' (Go.Addr.add (Go.Addr.mk g (0 : Nat) Option.none) (1 : Nat)) = Option.some (Go.Value.int Go.IntKind.i64 x_21) ∧ ∃ (x_22 : Int), Go.World.cell? w'
 (Go.Addr.add (Go.Addr.mk g (0 : Nat) Option.none) (2 : Nat)) = Option.some (Go.Value.int Go.IntKind.i64 x_22) ∧ ∃ (x_23 : Option Go.Addr), ∃ (x_24 : Nat), ∃ (x_25 : Nat), Go.World.cell? w' (Go.Addr.add
 (Go.Addr.mk g (0 : Nat) Option.none) (3 : Nat)) = Option.some (Go.Value.slice x_23 x_24 x_25) ∧ ∃ (x_26 : Option Go.Addr), ∃ (x_27 : Nat), ∃ (x_28 : Nat), Go.World.cell? w' (Go.Addr.add (Go.Addr.mk g
 (0 : Nat) Option.none) (4 : Nat)) = Option.some (Go.Value.slice x_26 x_27 x_28) ∧ ∃ (x_29 : Option Go.Addr), ∃ (x_30 : Nat), ∃ (x_31 : Nat), Go.World.cell? w' (Go.Addr.add (Go.Addr.mk g (0 : Nat)
 Option.none) (5 : Nat)) = Option.some (Go.Value.slice x_29 x_30 x_31) ∧ ∃ (x_32 : Option Go.Addr), ∃ (x_33 : Nat), ∃ (x_34 : Nat), Go.World.cell? w' (Go.Addr.add (Go.Addr.mk g (0 : Nat) Option.none) (6
 : Nat)) = Option.some (Go.Value.slice x_32 x_33 x_34) ∧ ∃ (x_35 : Option Go.Addr), ∃ (x_36 : Nat), ∃ (x_37 : Nat), Go.World.cell? w' (Go.Addr.add (Go.Addr.mk g (0 : Nat) Option.none) (7 : Nat)) =
 Option.some (Go.Value.slice x_35 x_36 x_37) ∧ ∃ (x_38 : Option Go.Addr), ∃ (x_39 : Nat), ∃ (x_40 : Nat), Go.World.cell? w' (Go.Addr.add (Go.Addr.mk g (0 : Nat) Option.none) (8 : Nat)) = Option.some
 (Go.Value.slice x_38 x_39 x_40) ∧ Go.Sx.CallsV Go.Proofs.Tryd.prog (8 : Nat) #[Go.Value.agg #[Go.Value.int Go.IntKind.i64 x, Go.Value.int Go.IntKind.i64 x_21, Go.Value.int Go.IntKind.i64 x_22,
 Go.Value.slice x_23 x_24 x_25, Go.Value.slice x_26 x_27 x_28, Go.Value.slice x_29 x_30 x_31, Go.Value.slice x_32 x_33 x_34, Go.Value.slice x_35 x_36 x_37, Go.Value.slice x_38 x_39 x_40]] w' fun (v :
 Go.Value) (w' : Go.World) => ∃ (x : Int), v = Go.Value.int Go.IntKind.i64 x ∧ bif !Decidable.decide (x = (0 : Int)) then Go.Sx.CallsV Go.Proofs.Tryd.prog (9 : Nat) #[] w' fun (v : Go.Value) (w' :
 Go.World) => ∃ (x : Bool), v = Go.Value.bool x ∧ K (Go.Value.bool x) w' else ∃ (x : Option Go.Addr), ∃ (x_41 : Nat), ∃ (x_42 : Nat), Go.World.cell? w' (Go.Addr.add (Go.Addr.mk g (0 : Nat) Option.none)
 (8 : Nat)) = Option.some (Go.Value.slice x x_41 x_42) ∧ Go.Sx.CallsV Go.Proofs.Tryd.prog (10 : Nat) #[Go.Value.int Go.IntKind.i64 atx, Go.Value.int Go.IntKind.i64 (↑x_41 : Int)] w' fun (v : Go.Value)
 (w' : Go.World) => ∃ (x : Int), v = Go.Value.int Go.IntKind.i64 x ∧ ∃ (x_43 : Int), Go.World.cell? w' (Go.Addr.add (Go.Addr.mk g (0 : Nat) Option.none) (0 : Nat)) = Option.some (Go.Value.int
 Go.IntKind.i64 x_43) ∧ ∃ (x_44 : Int), Go.World.cell? w' (Go.Addr.add (Go.Addr.mk g (0 : Nat) Option.none) (1 : Nat)) = Option.some (Go.Value.int Go.IntKind.i64 x_44) ∧ ∃ (x_45 : Int), Go.World.cell?
 w' (Go.Addr.add (Go.Addr.mk g (0 : Nat) Option.none) (2 : Nat)) = Option.some (Go.Value.int Go.IntKind.i64 x_45) ∧ ∃ (x_46 : Option Go.Addr), ∃ (x_47 : Nat), ∃ (x_48 : Nat), Go.World.cell? w'
 (Go.Addr.add (Go.Addr.mk g (0 : Nat) Option.none) (3 : Nat)) = Option.some (Go.Value.slice x_46 x_47 x_48) ∧ ∃ (x_49 : Option Go.Addr), ∃ (x_50 : Nat), ∃ (x_51 : Nat), Go.World.cell? w' (Go.Addr.add
 (Go.Addr.mk g (0 : Nat) Option.none) (4 : Nat)) = Option.some (Go.Value.slice x_49 x_50 x_51) ∧ ∃ (x_52 : Option Go.Addr), ∃ (x_53 : Nat), ∃ (x_54 : Nat), Go.World.cell? w' (Go.Addr.add (Go.Addr.mk g
 (0 : Nat) Option.none) (5 : Nat)) = Option.some (Go.Value.slice x_52 x_53 x_54) ∧ ∃ (x_55 : Option Go.Addr), ∃ (x_56 : Nat), ∃ (x_57 : Nat), Go.World.cell? w' (Go.Addr.add (Go.Addr.mk g (0 : Nat)
 Option.none) (6 : Nat)) = Option.some (Go.Value.slice x_55 x_56 x_57) ∧ ∃ (x_58 : Option Go.Addr), ∃ (x_59 : Nat), ∃ (x_60 : Nat), Go.World.cell? w' (Go.Addr.add (Go.Addr.mk g (0 : Nat) Option.none) (7
 : Nat)) = Option.some (Go.Value.slice x_58 x_59 x_60) ∧ ∃ (x_61 : Option Go.Addr), ∃ (x_62 : Nat), ∃ (x_63 : Nat), Go.World.cell? w' (Go.Addr.add (Go.Addr.mk g (0 : Nat) Option.none) (8 : Nat)) =
 Option.some (Go.Value.slice x_61 x_62 x_63) ∧ ∀ (g_1 : Nat) (w'_1 : Go.World), Go.Sx.Fresh w' g_1 w'_1 [Go.Value.int Go.IntKind.i64 (0 : Int), Go.Value.int Go.IntKind.i64 (0 : Int), Go.Value.int
 Go.IntKind.i64 (0 : Int), Go.Value.slice Option.none (0 : Nat) (0 : Nat), Go.Value.slice Option.none (0 : Nat) (0 : Nat), Go.Value.slice Option.none (0 : Nat) (0 : Nat), Go.Value.slice Option.none (0 :
 Nat) (0 : Nat), Go.Value.slice Option.none (0 : Nat) (0 : Nat), Go.Value.slice Option.none (0 : Nat) (0 : Nat)] (29 : Nat) → Go.Sx.stOK (Go.Addr.mk g_1 (0 : Nat) Option.none) (0 : Nat) [Go.Value.int
 Go.IntKind.i64 x_43, Go.Value.int Go.IntKind.i64 x_44, Go.Value.int Go.IntKind.i64 x_45, Go.Value.slice x_46 x_47 x_48, Go.Value.slice x_49 x_50 x_51, Go.Value.slice x_52 x_53 x_54, Go.Value.slice x_55
 x_56 x_57, Go.Value.slice x_58 x_59 x_60, Go.Value.slice x_61 x_62 x_63] w'_1 ∧ ∀ (w' : Go.World), w' = Go.Sx.setAll (Go.Addr.mk g_1 (0 : Nat) Option.none) (0 : Nat) [Go.Value.int Go.IntKind.i64 x_43,
 Go.Value.int Go.IntKind.i64 x_44, Go.Value.int Go.IntKind.i64 x_45, Go.Value.slice x_46 x_47 x_48, Go.Value.slice x_49 x_50 x_51, Go.Value.slice x_52 x_53 x_54, Go.Value.slice x_55 x_56 x_57,
 Go.Value.slice x_58 x_59 x_60, Go.Value.slice x_61 x_62 x_63] w'_1 → ∀ (g_2 : Nat) (w'_2 : Go.World), Go.Sx.Fresh w' g_2 w'_2 [] (38 : Nat) → ∃ (x_64 : Option Go.Addr), ∃ (x_65 : Nat), ∃ (x_66 : Nat),
 Go.World.cell? w'_2 (Go.Addr.add (Go.Addr.mk g (0 : Nat) Option.none) (8 : Nat)) = Option.some (Go.Value.slice x_64 x_65 x_66) ∧ ∃ (x_67 : Option Go.Addr), ∃ (x_68 : Nat), ∃ (x_69 : Nat), ∃ (w' :
 Go.World), Go.Sx.RunsTo Go.Proofs.Tryd.prog (Go.Builtin.append_ (Array.mk [(27 : Nat), (27 : Nat)]) (27 : Nat) #[Go.Value.slice (Option.some (Go.Addr.mk g_2 (0 : Nat) Option.none)) (0 : Nat) (0 : Nat),
 Go.Value.slice x_64 x_65 x_66]) w'_2 (Go.Value.slice x_67 x_68 x_69) w' ∧ Go.Sx.stOK (Go.Addr.add (Go.Addr.mk g_1 (0 : Nat) Option.none) (8 : Nat)) (0 : Nat) [Go.Value.slice x_67 x_68 x_69] w' ∧ ∀
 (w'_3 : Go.World), w'_3 = Go.Sx.setAll (Go.Addr.add (Go.Addr.mk g_1 (0 : Nat) Option.none) (8 : Nat)) (0 : Nat) [Go.Value.slice x_67 x_68 x_69] w' → ∃ (x_70 : Option Go.Addr), ∃ (x_71 : Nat), ∃ (x_72 :
 Nat), Go.World.cell? w'_3 (Go.Addr.add (Go.Addr.mk g_1 (0 : Nat) Option.none) (8 : Nat)) = Option.some (Go.Value.slice x_70 x_71 x_72) ∧ ∃ (ad : Go.Addr), x_70 = Option.some ad ∧ ((0 : Int) ≤ x ∧ x <
 (↑x_71 : Int)) ∧ ∃ (J : Int → Go.World → Prop), (∀ (x_73 : Int) (w : Go.World), J x_73 w → ∃ (J : Go.World → Prop), (∀ (w : Go.World), J w → ∃ (x : Int), Go.World.cell? w (Go.Addr.add (Go.Addr.mk g_1
 (0 : Nat) Option.none) (0 : Nat)) = Option.some (Go.Value.int Go.IntKind.i64 x) ∧ ∃ (x_74 : Int), Go.World.cell? w (Go.Addr.add (Go.Addr.mk g_1 (0 : Nat) Option.none) (1 : Nat)) = Option.some
 (Go.Value.int Go.IntKind.i64 x_74) ∧ ∃ (x_75 : Int), Go.World.cell? w (Go.Addr.add (Go.Addr.mk g_1 (0 : Nat) Option.none) (2 : Nat)) = Option.some (Go.Value.int Go.IntKind.i64 x_75) ∧ ∃ (x_76 : Option
 Go.Addr), ∃ (x_77 : Nat), ∃ (x_78 : Nat), Go.World.cell? w (Go.Addr.add (Go.Addr.mk g_1 (0 : Nat) Option.none) (3 : Nat)) = Option.some (Go.Value.slice x_76 x_77 x_78) ∧ ∃ (x_79 : Option Go.Addr), ∃
 (x_80 : Nat), ∃ (x_81 : Nat), Go.World.cell? w (Go.Addr.add (Go.Addr.mk g_1 (0 : Nat) Option.none) (4 : Nat)) = Option.some (Go.Value.slice x_79 x_80 x_81) ∧ ∃ (x_82 : Option Go.Addr), ∃ (x_83 : Nat),
 ∃ (x_84 : Nat), Go.World.cell? w (Go.Addr.add (Go.Addr.mk g_1 (0 : Nat) Option.none) (5 : Nat)) = Option.some (Go.Value.slice x_82 x_83 x_84) ∧ ∃ (x_85 : Option Go.Addr), ∃ (x_86 : Nat), ∃ (x_87 :
 Nat), Go.World.cell? w (Go.Addr.add (Go.Addr.mk g_1 (0 : Nat) Option.none) (6 : Nat)) = Option.some (Go.Value.slice x_85 x_86 x_87) ∧ ∃ (x_88 : Option Go.Addr), ∃ (x_89 : Nat), ∃ (x_90 : Nat),
 Go.World.cell? w (Go.Addr.add (Go.Addr.mk g_1 (0 : Nat) Option.none) (7 : Nat)) = Option.some (Go.Value.slice x_88 x_89 x_90) ∧ ∃ (x_91 : Option Go.Addr), ∃ (x_92 : Nat), ∃ (x_93 : Nat), Go.World.cell?
 w (Go.Addr.add (Go.Addr.mk g_1 (0 : Nat) Option.none) (8 : Nat)) = Option.some (Go.Value.slice x_91 x_92 x_93) ∧ Go.Sx.CallsV Go.Proofs.Tryd.prog (8 : Nat) #[Go.Value.agg #[Go.Value.int Go.IntKind.i64
 x, Go.Value.int Go.IntKind.i64 x_74, Go.Value.int Go.IntKind.i64 x_75, Go.Value.slice x_76 x_77 x_78, Go.Value.slice x_79 x_80 x_81, Go.Value.slice x_82 x_83 x_84, Go.Value.slice x_85 x_86 x_87,
 Go.Value.slice x_88 x_89 x_90, Go.Value.slice x_91 x_92 x_93]] w fun (v : Go.Value) (w' : Go.World) => ∃ (x : Int), v = Go.Value.int Go.IntKind.i64 x ∧ bif Decidable.decide (x = (140 : Int)) then
 Go.Sx.CallsV Go.Proofs.Tryd.prog (9 : Nat) #[] w' fun (v : Go.Value) (w' : Go.World) => ∃ (x : Bool), v = Go.Value.bool x ∧ K (Go.Value.bool x) w' else K (Go.Value.bool Bool.false) w') ∧ Go.Sx.CallsV
 Go.Proofs.Tryd.prog (10 : Nat) #[Go.Value.int Go.IntKind.i64 field, Go.Value.int Go.IntKind.i64 (4 : Int)] w fun (v : Go.Value) (w' : Go.World) => ∃ (x_74 : Int), v = Go.Value.int Go.IntKind.i64 x_74 ∧
 bif Decidable.decide (x_74 = (0 : Int)) then ∃ (a : Go.Addr), Option.some (Go.Addr.add ad (Int.toNat x * (5 : Nat))) = Option.some a ∧ Go.Sx.stOK (Go.Addr.add a (1 : Nat)) (0 : Nat) [Go.Value.int
 Go.IntKind.i64 x_73] w' ∧ ∀ (w'_4 : Go.World), w'_4 = Go.Sx.setAll (Go.Addr.add a (1 : Nat)) (0 : Nat) [Go.Value.int Go.IntKind.i64 x_73] w' → J w'_4 else bif Decidable.decide (x_74 = (1 : Int)) then ∃
 (a : Go.Addr), Option.some (Go.Addr.add ad (Int.toNat x * (5 : Nat))) = Option.some a ∧ Go.Sx.stOK (Go.Addr.add a (2 : Nat)) (0 : Nat) [Go.Value.int Go.IntKind.i64 x_73] w' ∧ ∀ (w'_4 : Go.World), w'_4
 = Go.Sx.setAll (Go.Addr.add a (2 : Nat)) (0 : Nat) [Go.Value.int Go.IntKind.i64 x_73] w' → J w'_4 else bif Decidable.decide (x_74 = (2 : Int)) then ∃ (a : Go.Addr), Option.some (Go.Addr.add ad
 (Int.toNat x * (5 : Nat))) = Option.some a ∧ Go.Sx.stOK (Go.Addr.add a (3 : Nat)) (0 : Nat) [Go.Value.int Go.IntKind.i64 x_73] w' ∧ ∀ (w'_4 : Go.World), w'_4 = Go.Sx.setAll (Go.Addr.add a (3 : Nat)) (0
 : Nat) [Go.Value.int Go.IntKind.i64 x_73] w' → J w'_4 else ∃ (a : Go.Addr), Option.some (Go.Addr.add ad (Int.toNat x * (5 : Nat))) = Option.some a ∧ Go.Sx.stOK (Go.Addr.add a (4 : Nat)) (0 : Nat)
 [Go.Value.int Go.IntKind.i64 x_73] w' ∧ ∀ (w'_4 : Go.World), w'_4 = Go.Sx.setAll (Go.Addr.add a (4 : Nat)) (0 : Nat) [Go.Value.int Go.IntKind.i64 x_73] w' → J w'_4) ∧ Go.Sx.CallsV Go.Proofs.Tryd.prog
 (10 : Nat) #[Go.Value.int Go.IntKind.i64 field, Go.Value.int Go.IntKind.i64 (8 : Int)] w'_3 fun (v : Go.Value) (w' : Go.World) => ∃ (x : Int), v = Go.Value.int Go.IntKind.i64 x ∧ bif Decidable.decide
 ((4 : Int) ≤ x) then J (-1 : Int) w' else J (1073741824 : Int) w'
theorem cardindexlaw15_CodeEnds.eq (p0 : Int) (p1 : Int) (p2 : Int) (p3_A : Option Addr) (p3_n : Nat) (p3_c : Nat) (p4_A : Option Addr) (p4_n : Nat) (p4_c : Nat) (p5_A : Option Addr) (p5_n : Nat) (p5_c : Nat) (p6_A : Option Addr) (p6_n : Nat) (p6_c : Nat) (p7_A : Option Addr) (p7_n : Nat) (p7_c : Nat) (p8_A : Option Addr) (p8_n : Nat) (p8_c : Nat) (atx : Int) (field : Int) (w : World) (K : Value → World → Prop) : cardindexlaw15_CodeEnds.W p0 p1 p2 p3_A p3_n p3_c p4_A p4_n p4_c p5_A p5_n p5_c p6_A p6_n p6_c p7_A p7_n p7_c p8_A p8_n p8_c atx field w K = fnW Tryd.prog Tryd.f3 (.named (.seq .auto (.seq .auto (.seq .auto (.seq .auto (.seq .auto (.seq .auto (.seq .auto (.join [(10, .one (.int .i64))] .auto (.join [] .auto .auto)))))))))) [.agg #[.int .i64 p0, .int .i64 p1, .int .i64 p2, .slice p3_A p3_n p3_c, .slice p4_A p4_n p4_c, .slice p5_A p5_n p5_c, .slice p6_A p6_n p6_c, .slice p7_A p7_n p7_c, .slice p8_A p8_n p8_c], .int .i64 atx, .int .i64 field] w K := by kernel_rfl
theorem cardindexlaw15_CodeEnds.calls (ok : Okay Tryd.prog) {p0 : Int} {p1 : Int} {p2 : Int} {p3_A : Option Addr} {p3_n : Nat} {p3_c : Nat} {p4_A : Option Addr} {p4_n : Nat} {p4_c : Nat} {p5_A : Option Addr} {p5_n : Nat} {p5_c : Nat} {p6_A : Option Addr} {p6_n : Nat} {p6_c : Nat} {p7_A : Option Addr} {p7_n : Nat} {p7_c : Nat} {p8_A : Option Addr} {p8_n : Nat} {p8_c : Nat} {atx : Int} {field : Int} {w : World} {K : Value → World → Prop} (h : cardindexlaw15_CodeEnds.W p0 p1 p2 p3_A p3_n p3_c p4_A p4_n p4_c p5_A p5_n p5_c p6_A p6_n p6_c p7_A p7_n p7_c p8_A p8_n p8_c atx field w K) : CallsV Tryd.prog 3 #[.agg #[.int .i64 p0, .int .i64 p1, .int .i64 p2, .slice p3_A p3_n p3_c, .slice p4_A p4_n p4_c, .slice p5_A p5_n p5_c, .slice p6_A p6_n p6_c, .slice p7_A p7_n p7_c, .slice p8_A p8_n p8_c], .int .i64 atx, .int .i64 field] w K :=
  fnW_calls ok Tryd.func3 (an := (.named (.seq .auto (.seq .auto (.seq .auto (.seq .auto (.seq .auto (.seq .auto (.seq .auto (.join [(10, .one (.int .i64))] .auto (.join [] .auto .auto))))))))))) (args := [.agg #[.int .i64 p0, .int .i64 p1, .int .i64 p2, .slice p3_A p3_n p3_c, .slice p4_A p4_n p4_c, .slice p5_A p5_n p5_c, .slice p6_A p6_n p6_c, .slice p7_A p7_n p7_c, .slice p8_A p8_n p8_c], .int .i64 atx, .int .i64 field]) (by rw [← cardindexlaw15_CodeEnds.eq]; exact h)
noncomputable def cardindexkit_Pick.W : Int → Int → World → (Value → World → Prop) → Prop := fun (x n : Int) (w : Go.World) (K : Go.Value → Go.World → Prop) => bif Decidable.decide (n < (1 : Int)) then
 K (Go.Value.int Go.IntKind.i64 (0 : Int)) w else n ≠ (0 : Int) ∧ bif Decidable.decide (Int.tmod x n < (0 : Int)) then K (Go.Value.int Go.IntKind.i64 (Go.IntKind.wrap Go.IntKind.i64 (Int.tmod x n + n)))
 w else K (Go.Value.int Go.IntKind.i64 (Int.tmod x n)) w
theorem cardindexkit_Pick.eq (x : Int) (n : Int) (w : World) (K : Value → World → Prop) : cardindexkit_Pick.W x n w K = fnW Tryd.prog Tryd.f10 (.named .auto) [.int .i64 x, .int .i64 n] w K := by kernel_rfl
theorem cardindexkit_Pick.calls (ok : Okay Tryd.prog) {x : Int} {n : Int} {w : World} {K : Value → World → Prop} (h : cardindexkit_Pick.W x n w K) : CallsV Tryd.prog 10 #[.int .i64 x, .int .i64 n] w K :=
  fnW_calls ok Tryd.func10 (an := (.named .auto)) (args := [.int .i64 x, .int .i64 n]) (by rw [← cardindexkit_Pick.eq]; exact h)
end Go.Proofs.YtaifphjenebgoaaDoor
/- The preconditions of Go functions, printed by a program of this workplace (nests.py); each is proved to be the engine's own. -/
set_option linter.unusedVariables false
set_option maxRecDepth 100000
namespace Go.Proofs.YtaifphjenebgoaaDoor
open Go Go.Sx
noncomputable def code_Check.W : Int → Int → Int → Option Addr → Nat → Nat → Option Addr → Nat → Nat → Option Addr → Nat → Nat → Option Addr → Nat → Nat → Option Addr → Nat → Nat → Option Addr → Nat →
 Nat → World → (Value → World → Prop) → Prop := fun (p0 p1 p2 : Int) (p3_A : Option Go.Addr) (p3_n p3_c : Nat) (p4_A : Option Go.Addr) (p4_n p4_c : Nat) (p5_A : Option Go.Addr) (p5_n p5_c : Nat) (p6_A :
 Option Go.Addr) (p6_n p6_c : Nat) (p7_A : Option Go.Addr) (p7_n p7_c : Nat) (p8_A : Option Go.Addr) (p8_n p8_c : Nat) (w : Go.World) (K : Go.Value → Go.World → Prop) => ∀ (g : Nat) (w' : Go.World),
 Go.Sx.Fresh w g w' [Go.Value.int Go.IntKind.i64 p0, Go.Value.int Go.IntKind.i64 p1, Go.Value.int Go.IntKind.i64 p2, Go.Value.slice p3_A p3_n p3_c, Go.Value.slice p4_A p4_n p4_c, Go.Value.slice p5_A
 p5_n p5_c, Go.Value.slice p6_A p6_n p6_c, Go.Value.slice p7_A p7_n p7_c, Go.Value.slice p8_A p8_n p8_c] (29 : Nat) → ∃ (x : Int), Go.World.cell? w' (Go.Addr.add (Go.Addr.mk g (0 : Nat) Option.none) (0
 : Nat)) = Option.some (Go.Value.int Go.IntKind.i64 x) ∧ ∃ (x_1 : Int), Go.World.cell? w' (Go.Addr.add (Go.Addr.mk g (0 : Nat) Option.none) (1 : Nat)) = Option.some (Go.Value.int Go.IntKind.i64 x_1) ∧ ∃
 (x_2 : Int), Go.World.cell? w' (Go.Addr.add (Go.Addr.mk g (0 : Nat) Option.none) (2 : Nat)) = Option.some (Go.Value.int Go.IntKind.i64 x_2) ∧ ∃ (x_3 : Option Go.Addr), ∃ (x_4 : Nat), ∃ (x_5 : Nat),
 Go.World.cell? w' (Go.Addr.add (Go.Addr.mk g (0 : Nat) Option.none) (3 : Nat)) = Option.some (Go.Value.slice x_3 x_4 x_5) ∧ ∃ (x_6 : Option Go.Addr), ∃ (x_7 : Nat), ∃ (x_8 : Nat), Go.World.cell? w'
 (Go.Addr.add (Go.Addr.mk g (0 : Nat) Option.none) (4 : Nat)) = Option.some (Go.Value.slice x_6 x_7 x_8) ∧ ∃ (x_9 : Option Go.Addr), ∃ (x_10 : Nat), ∃ (x_11 : Nat), Go.World.cell? w' (Go.Addr.add
 (Go.Addr.mk g (0 : Nat) Option.none) (5 : Nat)) = Option.some (Go.Value.slice x_9 x_10 x_11) ∧ ∃ (x_12 : Option Go.Addr), ∃ (x_13 : Nat), ∃ (x_14 : Nat), Go.World.cell? w' (Go.Addr.add (Go.Addr.mk g (0
 : Nat) Option.none) (6 : Nat)) = Option.some (Go.Value.slice x_12 x_13 x_14) ∧ ∃ (x_15 : Option Go.Addr), ∃ (x_16 : Nat), ∃ (x_17 : Nat), Go.World.cell? w' (Go.Addr.add (Go.Addr.mk g (0 : Nat)
 Option.none) (7 : Nat)) = Option.some (Go.Value.slice x_15 x_16 x_17) ∧ ∃ (x_18 : Option Go.Addr), ∃ (x_19 : Nat), ∃ (x_20 : Nat), Go.World.cell? w' (Go.Addr.add (Go.Addr.mk g (0 : Nat) Option.none) (8
 : Nat)) = Option.some (Go.Value.slice x_18 x_19 x_20) ∧ Go.Sx.CallsV Go.Proofs.Tryd.prog (18 : Nat) #[Go.Value.agg #[Go.Value.int Go.IntKind.i64 x, Go.Value.int Go.IntKind.i64 x_1, Go.Value.int
 Go.IntKind.i64 x_2, Go.Value.slice x_3 x_4 x_5, Go.Value.slice x_6 x_7 x_8, Go.Value.slice x_9 x_10 x_11, Go.Value.slice x_12 x_13 x_14, Go.Value.slice x_15 x_16 x_17, Go.Value.slice x_18 x_19 x_20]]
 w' fun (v : Go.Value) (w' : Go.World) => ∃ (x : Bool), v = Go.Value.bool x ∧ bif !x then K (Go.Value.int Go.IntKind.i64 (140 : Int)) w' else ∃ (x : Option Go.Addr), ∃ (x_21 : Nat), ∃ (x_22 : Nat),
 Go.World.cell? w' (Go.Addr.add (Go.Addr.mk g (0 : Nat) Option.none) (8 : Nat)) = Option.some (Go.Value.slice x x_21 x_22) ∧ bif Decidable.decide ((↑x_21 : Int) < (1 : Int)) then K (Go.Value.int
 Go.IntKind.i64 (140 : Int)) w' else ∃ (x : Option Go.Addr), ∃ (x_23 : Nat), ∃ (x_24 : Nat), Go.World.cell? w' (Go.Addr.add (Go.Addr.mk g (0 : Nat) Option.none) (8 : Nat)) = Option.some (Go.Value.slice
 x x_23 x_24) ∧ bif Decidable.decide ((4000 : Int) < (↑x_23 : Int)) then K (Go.Value.int Go.IntKind.i64 (140 : Int)) w' else ∃ (x : Option Go.Addr), ∃ (x_25 : Nat), ∃ (x_26 : Nat), Go.World.cell? w'
 (Go.Addr.add (Go.Addr.mk g (0 : Nat) Option.none) (8 : Nat)) = Option.some (Go.Value.slice x x_25 x_26) ∧ ∃ (x_27 : Option Go.Addr), ∃ (x_28 : Nat), ∃ (x_29 : Nat), Go.World.cell? w' (Go.Addr.add
 (Go.Addr.mk g (0 : Nat) Option.none) (8 : Nat)) = Option.some (Go.Value.slice x_27 x_28 x_29) ∧ ∃ (ad : Go.Addr), x = Option.some ad ∧ ((0 : Int) ≤ Go.IntKind.wrap Go.IntKind.i64 ((↑x_28 : Int) - (1 :
 Int)) ∧ Go.IntKind.wrap Go.IntKind.i64 ((↑x_28 : Int) - (1 : Int)) < (↑x_25 : Int)) ∧ ∃ (x : Int), Go.World.cell? w' (Go.Addr.add (Go.Addr.add ad (Int.toNat (Go.IntKind.wrap Go.IntKind.i64 ((↑x_28 :
 Int) - (1 : Int))) * (5 : Nat))) (0 : Nat)) = Option.some (Go.Value.int Go.IntKind.u8 x) ∧ bif !Decidable.decide (x = (35 : Int)) then K (Go.Value.int Go.IntKind.i64 (140 : Int)) w' else ∃ (x : Option
 Go.Addr), ∃ (x_30 : Nat), ∃ (x_31 : Nat), Go.World.cell? w' (Go.Addr.add (Go.Addr.mk g (0 : Nat) Option.none) (8 : Nat)) = Option.some (Go.Value.slice x x_30 x_31) ∧ ∃ (I : Int → Go.World → Prop), ∃ (μ
 : Int → Go.World → Nat), I (0 : Int) w' ∧ ∀ (x_32 : Int) (w : Go.World), I x_32 w → bif Decidable.decide (x_32 < (↑x_30 : Int)) then ∃ (ad : Go.Addr), x = Option.some ad ∧ ((0 : Int) ≤ x_32 ∧ x_32 <
 (↑x_30 : Int)) ∧ ∃ (x : Int), Go.World.cell? w (Go.Addr.add (Go.Addr.add ad (Int.toNat x_32 * (5 : Nat))) (0 : Nat)) = Option.some (Go.Value.int Go.IntKind.u8 x) ∧ ∃ (x_33 : Int), Go.World.cell? w
 (Go.Addr.add (Go.Addr.add ad (Int.toNat x_32 * (5 : Nat))) (1 : Nat)) = Option.some (Go.Value.int Go.IntKind.i64 x_33) ∧ ∃ (x_34 : Int), Go.World.cell? w (Go.Addr.add (Go.Addr.add ad (Int.toNat x_32 *
 (5 : Nat))) (2 : Nat)) = Option.some (Go.Value.int Go.IntKind.i64 x_34) ∧ ∃ (x_35 : Int), Go.World.cell? w (Go.Addr.add (Go.Addr.add ad (Int.toNat x_32 * (5 : Nat))) (3 : Nat)) = Option.some
 (Go.Value.int Go.IntKind.i64 x_35) ∧ ∃ (x_36 : Int), Go.World.cell? w (Go.Addr.add (Go.Addr.add ad (Int.toNat x_32 * (5 : Nat))) (4 : Nat)) = Option.some (Go.Value.int Go.IntKind.i64 x_36) ∧ ∀ (g_1 :
 Nat) (w' : Go.World), Go.Sx.Fresh w g_1 w' [Go.Value.int Go.IntKind.u8 (0 : Int), Go.Value.int Go.IntKind.i64 (0 : Int), Go.Value.int Go.IntKind.i64 (0 : Int), Go.Value.int Go.IntKind.i64 (0 : Int),
 Go.Value.int Go.IntKind.i64 (0 : Int)] (38 : Nat) → Go.Sx.stOK (Go.Addr.mk g_1 (0 : Nat) Option.none) (0 : Nat) [Go.Value.int Go.IntKind.u8 x, Go.Value.int Go.IntKind.i64 x_33, Go.Value.int
 Go.IntKind.i64 x_34, Go.Value.int Go.IntKind.i64 x_35, Go.Value.int Go.IntKind.i64 x_36] w' ∧ ∀ (w'_1 : Go.World), w'_1 = Go.Sx.setAll (Go.Addr.mk g_1 (0 : Nat) Option.none) (0 : Nat) [Go.Value.int
 Go.IntKind.u8 x, Go.Value.int Go.IntKind.i64 x_33, Go.Value.int Go.IntKind.i64 x_34, Go.Value.int Go.IntKind.i64 x_35, Go.Value.int Go.IntKind.i64 x_36] w' → ∃ (x : Int), Go.World.cell? w'_1
 (Go.Addr.add (Go.Addr.mk g_1 (0 : Nat) Option.none) (0 : Nat)) = Option.some (Go.Value.int Go.IntKind.u8 x) ∧ Go.Sx.CallsV Go.Proofs.Tryd.prog (19 : Nat) #[Go.Value.int Go.IntKind.u8 x] w'_1 fun (v :
 Go.Value) (w' : Go.World) => ∃ (x : ByteArray), v = Go.Value.string x ∧ bif ByteArray.toList x == ByteArray.toList (ByteArray.mk #[]) then K (Go.Value.int Go.IntKind.i64 (140 : Int)) w' else ∃ (x_37 :
 Int), Go.World.cell? w' (Go.Addr.add (Go.Addr.mk g_1 (0 : Nat) Option.none) (1 : Nat)) = Option.some (Go.Value.int Go.IntKind.i64 x_37) ∧ ∃ (x_38 : Int), Go.World.cell? w' (Go.Addr.add (Go.Addr.mk g_1
 (0 : Nat) Option.none) (2 : Nat)) = Option.some (Go.Value.int Go.IntKind.i64 x_38) ∧ ∃ (x_39 : Int), Go.World.cell? w' (Go.Addr.add (Go.Addr.mk g_1 (0 : Nat) Option.none) (3 : Nat)) = Option.some
 (Go.Value.int Go.IntKind.i64 x_39) ∧ ∃ (x_40 : Int), Go.World.cell? w' (Go.Addr.add (Go.Addr.mk g_1 (0 : Nat) Option.none) (4 : Nat)) = Option.some (Go.Value.int Go.IntKind.i64 x_40) ∧ ∃ (I_1 : Int →
 Go.World → Prop), ∃ (μ_1 : Int → Go.World → Nat), I_1 (0 : Int) w' ∧ ∀ (x_41 : Int) (w_1 : Go.World), I_1 x_41 w_1 → bif Decidable.decide (x_41 < (4 : Int)) then ((0 : Int) ≤ x_41 ∧ x_41 < (↑(4 : Nat)
 : Int)) ∧ bif Decidable.decide (x_41 = (↑(0 : Nat) : Int)) then ∃ (S : Go.World → Prop), S (Go.World.drew w_1) ∧ ∃ (x_42 : Int), (∀ (u : Go.World), S u → Go.World.cell? u (Go.Addr.add (Go.Addr.mk g (0
 : Nat) Option.none) (0 : Nat)) = Option.some (Go.Value.int Go.IntKind.i64 x_42)) ∧ ∃ (x_43 : Int), (∀ (u : Go.World), S u → Go.World.cell? u (Go.Addr.add (Go.Addr.mk g (0 : Nat) Option.none) (1 : Nat))
 = Option.some (Go.Value.int Go.IntKind.i64 x_43)) ∧ ∃ (x_44 : Int), (∀ (u : Go.World), S u → Go.World.cell? u (Go.Addr.add (Go.Addr.mk g (0 : Nat) Option.none) (2 : Nat)) = Option.some (Go.Value.int
 Go.IntKind.i64 x_44)) ∧ ∃ (x_45 : Option Go.Addr), ∃ (x_46 : Nat), ∃ (x_47 : Nat), (∀ (u : Go.World), S u → Go.World.cell? u (Go.Addr.add (Go.Addr.mk g (0 : Nat) Option.none) (3 : Nat)) = Option.some
 (Go.Value.slice x_45 x_46 x_47)) ∧ ∃ (x_48 : Option Go.Addr), ∃ (x_49 : Nat), ∃ (x_50 : Nat), (∀ (u : Go.World), S u → Go.World.cell? u (Go.Addr.add (Go.Addr.mk g (0 : Nat) Option.none) (4 : Nat)) =
 Option.some (Go.Value.slice x_48 x_49 x_50)) ∧ ∃ (x_51 : Option Go.Addr), ∃ (x_52 : Nat), ∃ (x_53 : Nat), (∀ (u : Go.World), S u → Go.World.cell? u (Go.Addr.add (Go.Addr.mk g (0 : Nat) Option.none) (5
 : Nat)) = Option.some (Go.Value.slice x_51 x_52 x_53)) ∧ ∃ (x_54 : Option Go.Addr), ∃ (x_55 : Nat), ∃ (x_56 : Nat), (∀ (u : Go.World), S u → Go.World.cell? u (Go.Addr.add (Go.Addr.mk g (0 : Nat)
 Option.none) (6 : Nat)) = Option.some (Go.Value.slice x_54 x_55 x_56)) ∧ ∃ (x_57 : Option Go.Addr), ∃ (x_58 : Nat), ∃ (x_59 : Nat), (∀ (u : Go.World), S u → Go.World.cell? u (Go.Addr.add (Go.Addr.mk g
 (0 : Nat) Option.none) (7 : Nat)) = Option.some (Go.Value.slice x_57 x_58 x_59)) ∧ ∃ (x_60 : Option Go.Addr), ∃ (x_61 : Nat), ∃ (x_62 : Nat), (∀ (u : Go.World), S u → Go.World.cell? u (Go.Addr.add
 (Go.Addr.mk g (0 : Nat) Option.none) (8 : Nat)) = Option.some (Go.Value.slice x_60 x_61 x_62)) ∧ ∃ (b : UInt8), ((0 : Int) ≤ x_41 ∧ x[Int.toNat x_41]? = Option.some b) ∧ Go.Sx.CallsV
 Go.Proofs.Tryd.prog (20 : Nat) #[Go.Value.agg #[Go.Value.int Go.IntKind.i64 x_42, Go.Value.int Go.IntKind.i64 x_43, Go.Value.int Go.IntKind.i64 x_44, Go.Value.slice x_45 x_46 x_47, Go.Value.slice x_48
 x_49 x_50, Go.Value.slice x_51 x_52 x_53, Go.Value.slice x_54 x_55 x_56, Go.Value.slice x_57 x_58 x_59, Go.Value.slice x_60 x_61 x_62], Go.Value.int Go.IntKind.i64 x_32, Go.Value.int Go.IntKind.u8
 (↑(UInt8.toNat b) : Int), Go.Value.int Go.IntKind.i64 x_37] (Go.World.drew w_1) fun (v : Go.Value) (w' : Go.World) => ∃ (x : Bool), v = Go.Value.bool x ∧ bif !x then K (Go.Value.int Go.IntKind.i64 (140
 : Int)) w' else I_1 (Go.IntKind.wrap Go.IntKind.i64 (x_41 + (1 : Int))) w' ∧ μ_1 (Go.IntKind.wrap Go.IntKind.i64 (x_41 + (1 : Int))) w' < μ_1 x_41 w_1 else bif Decidable.decide (x_41 = (↑(1 : Nat) :
 Int)) then ∃ (S : Go.World → Prop), S (Go.World.drew w_1) ∧ ∃ (x_42 : Int), (∀ (u : Go.World), S u → Go.World.cell? u (Go.Addr.add (Go.Addr.mk g (0 : Nat) Option.none) (0 : Nat)) = Option.some
 (Go.Value.int Go.IntKind.i64 x_42)) ∧ ∃ (x_43 : Int), (∀ (u : Go.World), S u → Go.World.cell? u (Go.Addr.add (Go.Addr.mk g (0 : Nat) Option.none) (1 : Nat)) = Option.some (Go.Value.int Go.IntKind.i64
 x_43)) ∧ ∃ (x_44 : Int), (∀ (u : Go.World), S u → Go.World.cell? u (Go.Addr.add (Go.Addr.mk g (0 : Nat) Option.none) (2 : Nat)) = Option.some (Go.Value.int Go.IntKind.i64 x_44)) ∧ ∃ (x_45 : Option
 Go.Addr), ∃ (x_46 : Nat), ∃ (x_47 : Nat), (∀ (u : Go.World), S u → Go.World.cell? u (Go.Addr.add (Go.Addr.mk g (0 : Nat) Option.none) (3 : Nat)) = Option.some (Go.Value.slice x_45 x_46 x_47)) ∧ ∃ (x_48
 : Option Go.Addr), ∃ (x_49 : Nat), ∃ (x_50 : Nat), (∀ (u : Go.World), S u → Go.World.cell? u (Go.Addr.add (Go.Addr.mk g (0 : Nat) Option.none) (4 : Nat)) = Option.some (Go.Value.slice x_48 x_49 x_50))
 ∧ ∃ (x_51 : Option Go.Addr), ∃ (x_52 : Nat), ∃ (x_53 : Nat), (∀ (u : Go.World), S u → Go.World.cell? u (Go.Addr.add (Go.Addr.mk g (0 : Nat) Option.none) (5 : Nat)) = Option.some (Go.Value.slice x_51
 x_52 x_53)) ∧ ∃ (x_54 : Option Go.Addr), ∃ (x_55 : Nat), ∃ (x_56 : Nat), (∀ (u : Go.World), S u → Go.World.cell? u (Go.Addr.add (Go.Addr.mk g (0 : Nat) Option.none) (6 : Nat)) = Option.some
 (Go.Value.slice x_54 x_55 x_56)) ∧ ∃ (x_57 : Option Go.Addr), ∃ (x_58 : Nat), ∃ (x_59 : Nat), (∀ (u : Go.World), S u → Go.World.cell? u (Go.Addr.add (Go.Addr.mk g (0 : Nat) Option.none) (7 : Nat)) =
 Option.some (Go.Value.slice x_57 x_58 x_59)) ∧ ∃ (x_60 : Option Go.Addr), ∃ (x_61 : Nat), ∃ (x_62 : Nat), (∀ (u : Go.World), S u → Go.World.cell? u (Go.Addr.add (Go.Addr.mk g (0 : Nat) Option.none) (8
 : Nat)) = Option.some (Go.Value.slice x_60 x_61 x_62)) ∧ ∃ (b : UInt8), ((0 : Int) ≤ x_41 ∧ x[Int.toNat x_41]? = Option.some b) ∧ Go.Sx.CallsV Go.Proofs.Tryd.prog (20 : Nat) #[Go.Value.agg
 #[Go.Value.int Go.IntKind.i64 x_42, Go.Value.int Go.IntKind.i64 x_43, Go.Value.int Go.IntKind.i64 x_44, Go.Value.slice x_45 x_46 x_47, Go.Value.slice x_48 x_49 x_50, Go.Value.slice x_51 x_52 x_53,
 Go.Value.slice x_54 x_55 x_56, Go.Value.slice x_57 x_58 x_59, Go.Value.slice x_60 x_61 x_62], Go.Value.int Go.IntKind.i64 x_32, Go.Value.int Go.IntKind.u8 (↑(UInt8.toNat b) : Int), Go.Value.int
 Go.IntKind.i64 x_38] (Go.World.drew w_1) fun (v : Go.Value) (w' : Go.World) => ∃ (x : Bool), v = Go.Value.bool x ∧ bif !x then K (Go.Value.int Go.IntKind.i64 (140 : Int)) w' else I_1 (Go.IntKind.wrap
 Go.IntKind.i64 (x_41 + (1 : Int))) w' ∧ μ_1 (Go.IntKind.wrap Go.IntKind.i64 (x_41 + (1 : Int))) w' < μ_1 x_41 w_1 else bif Decidable.decide (x_41 = (↑(2 : Nat) : Int)) then ∃ (S : Go.World → Prop), S
 (Go.World.drew w_1) ∧ ∃ (x_42 : Int), (∀ (u : Go.World), S u → Go.World.cell? u (Go.Addr.add (Go.Addr.mk g (0 : Nat) Option.none) (0 : Nat)) = Option.some (Go.Value.int Go.IntKind.i64 x_42)) ∧ ∃ (x_43
 : Int), (∀ (u : Go.World), S u → Go.World.cell? u (Go.Addr.add (Go.Addr.mk g (0 : Nat) Option.none) (1 : Nat)) = Option.some (Go.Value.int Go.IntKind.i64 x_43)) ∧ ∃ (x_44 : Int), (∀ (u : Go.World), S u
 → Go.World.cell? u (Go.Addr.add (Go.Addr.mk g (0 : Nat) Option.none) (2 : Nat)) = Option.some (Go.Value.int Go.IntKind.i64 x_44)) ∧ ∃ (x_45 : Option Go.Addr), ∃ (x_46 : Nat), ∃ (x_47 : Nat), (∀ (u :
 Go.World), S u → Go.World.cell? u (Go.Addr.add (Go.Addr.mk g (0 : Nat) Option.none) (3 : Nat)) = Option.some (Go.Value.slice x_45 x_46 x_47)) ∧ ∃ (x_48 : Option Go.Addr), ∃ (x_49 : Nat), ∃ (x_50 :
 Nat), (∀ (u : Go.World), S u → Go.World.cell? u (Go.Addr.add (Go.Addr.mk g (0 : Nat) Option.none) (4 : Nat)) = Option.some (Go.Value.slice x_48 x_49 x_50)) ∧ ∃ (x_51 : Option Go.Addr), ∃ (x_52 : Nat),
 ∃ (x_53 : Nat), (∀ (u : Go.World), S u → Go.World.cell? u (Go.Addr.add (Go.Addr.mk g (0 : Nat) Option.none) (5 : Nat)) = Option.some (Go.Value.slice x_51 x_52 x_53)) ∧ ∃ (x_54 : Option Go.Addr), ∃
 (x_55 : Nat), ∃ (x_56 : Nat), (∀ (u : Go.World), S u → Go.World.cell? u (Go.Addr.add (Go.Addr.mk g (0 : Nat) Option.none) (6 : Nat)) = Option.some (Go.Value.slice x_54 x_55 x_56)) ∧ ∃ (x_57 : Option
 Go.Addr), ∃ (x_58 : Nat), ∃ (x_59 : Nat), (∀ (u : Go.World), S u → Go.World.cell? u (Go.Addr.add (Go.Addr.mk g (0 : Nat) Option.none) (7 : Nat)) = Option.some (Go.Value.slice x_57 x_58 x_59)) ∧ ∃ (x_60
 : Option Go.Addr), ∃ (x_61 : Nat), ∃ (x_62 : Nat), (∀ (u : Go.World), S u → Go.World.cell? u (Go.Addr.add (Go.Addr.mk g (0 : Nat) Option.none) (8 : Nat)) = Option.some (Go.Value.slice x_60 x_61 x_62))
 ∧ ∃ (b : UInt8), ((0 : Int) ≤ x_41 ∧ x[Int.toNat x_41]? = Option.some b) ∧ Go.Sx.CallsV Go.Proofs.Tryd.prog (20 : Nat) #[Go.Value.agg #[Go.Value.int Go.IntKind.i64 x_42, Go.Value.int Go.IntKind.i64
 x_43, Go.Value.int Go.IntKind.i64 x_44, Go.Value.slice x_45 x_46 x_47, Go.Value.slice x_48 x_49 x_50, Go.Value.slice x_51 x_52 x_53, Go.Value.slice x_54 x_55 x_56, Go.Value.slice x_57 x_58 x_59,
 Go.Value.slice x_60 x_61 x_62], Go.Value.int Go.IntKind.i64 x_32, Go.Value.int Go.IntKind.u8 (↑(UInt8.toNat b) : Int), Go.Value.int Go.IntKind.i64 x_39] (Go.World.drew w_1) fun (v : Go.Value) (w' :
 Go.World) => ∃ (x : Bool), v = Go.Value.bool x ∧ bif !x then K (Go.Value.int Go.IntKind.i64 (140 : Int)) w' else I_1 (Go.IntKind.wrap Go.IntKind.i64 (x_41 + (1 : Int))) w' ∧ μ_1 (Go.IntKind.wrap
 Go.IntKind.i64 (x_41 + (1 : Int))) w' < μ_1 x_41 w_1 else bif Decidable.decide (x_41 = (↑(3 : Nat) : Int)) then ∃ (S : Go.World → Prop), S (Go.World.drew w_1) ∧ ∃ (x_42 : Int), (∀ (u : Go.World), S u →
 Go.World.cell? u (Go.Addr.add (Go.Addr.mk g (0 : Nat) Option.none) (0 : Nat)) = Option.some (Go.Value.int Go.IntKind.i64 x_42)) ∧ ∃ (x_43 : Int), (∀ (u : Go.World), S u → Go.World.cell? u (Go.Addr.add
 (Go.Addr.mk g (0 : Nat) Option.none) (1 : Nat)) = Option.some (Go.Value.int Go.IntKind.i64 x_43)) ∧ ∃ (x_44 : Int), (∀ (u : Go.World), S u → Go.World.cell? u (Go.Addr.add (Go.Addr.mk g (0 : Nat)
 Option.none) (2 : Nat)) = Option.some (Go.Value.int Go.IntKind.i64 x_44)) ∧ ∃ (x_45 : Option Go.Addr), ∃ (x_46 : Nat), ∃ (x_47 : Nat), (∀ (u : Go.World), S u → Go.World.cell? u (Go.Addr.add (Go.Addr.mk
 g (0 : Nat) Option.none) (3 : Nat)) = Option.some (Go.Value.slice x_45 x_46 x_47)) ∧ ∃ (x_48 : Option Go.Addr), ∃ (x_49 : Nat), ∃ (x_50 : Nat), (∀ (u : Go.World), S u → Go.World.cell? u (Go.Addr.add
 (Go.Addr.mk g (0 : Nat) Option.none) (4 : Nat)) = Option.some (Go.Value.slice x_48 x_49 x_50)) ∧ ∃ (x_51 : Option Go.Addr), ∃ (x_52 : Nat), ∃ (x_53 : Nat), (∀ (u : Go.World), S u → Go.World.cell? u
 (Go.Addr.add (Go.Addr.mk g (0 : Nat) Option.none) (5 : Nat)) = Option.some (Go.Value.slice x_51 x_52 x_53)) ∧ ∃ (x_54 : Option Go.Addr), ∃ (x_55 : Nat), ∃ (x_56 : Nat), (∀ (u : Go.World), S u →
 Go.World.cell? u (Go.Addr.add (Go.Addr.mk g (0 : Nat) Option.none) (6 : Nat)) = Option.some (Go.Value.slice x_54 x_55 x_56)) ∧ ∃ (x_57 : Option Go.Addr), ∃ (x_58 : Nat), ∃ (x_59 : Nat), (∀ (u :
 Go.World), S u → Go.World.cell? u (Go.Addr.add (Go.Addr.mk g (0 : Nat) Option.none) (7 : Nat)) = Option.some (Go.Value.slice x_57 x_58 x_59)) ∧ ∃ (x_60 : Option Go.Addr), ∃ (x_61 : Nat), ∃ (x_62 :
 Nat), (∀ (u : Go.World), S u → Go.World.cell? u (Go.Addr.add (Go.Addr.mk g (0 : Nat) Option.none) (8 : Nat)) = Option.some (Go.Value.slice x_60 x_61 x_62)) ∧ ∃ (b : UInt8), ((0 : Int) ≤ x_41 ∧
 x[Int.toNat x_41]? = Option.some b) ∧ Go.Sx.CallsV Go.Proofs.Tryd.prog (20 : Nat) #[Go.Value.agg #[Go.Value.int Go.IntKind.i64 x_42, Go.Value.int Go.IntKind.i64 x_43, Go.Value.int Go.IntKind.i64 x_44,
 Go.Value.slice x_45 x_46 x_47, Go.Value.slice x_48 x_49 x_50, Go.Value.slice x_51 x_52 x_53, Go.Value.slice x_54 x_55 x_56, Go.Value.slice x_57 x_58 x_59, Go.Value.slice x_60 x_61 x_62], Go.Value.int
 Go.IntKind.i64 x_32, Go.Value.int Go.IntKind.u8 (↑(UInt8.toNat b) : Int), Go.Value.int Go.IntKind.i64 x_40] (Go.World.drew w_1) fun (v : Go.Value) (w' : Go.World) => ∃ (x : Bool), v = Go.Value.bool x ∧
 bif !x then K (Go.Value.int Go.IntKind.i64 (140 : Int)) w' else I_1 (Go.IntKind.wrap Go.IntKind.i64 (x_41 + (1 : Int))) w' ∧ μ_1 (Go.IntKind.wrap Go.IntKind.i64 (x_41 + (1 : Int))) w' < μ_1 x_41 w_1
 else False else ∃ (x : Int), Go.World.cell? w_1 (Go.Addr.add (Go.Addr.mk g (0 : Nat) Option.none) (0 : Nat)) = Option.some (Go.Value.int Go.IntKind.i64 x) ∧ ∃ (x_42 : Int), Go.World.cell? w_1
 (Go.Addr.add (Go.Addr.mk g (0 : Nat) Option.none) (1 : Nat)) = Option.some (Go.Value.int Go.IntKind.i64 x_42) ∧ ∃ (x_43 : Int), Go.World.cell? w_1 (Go.Addr.add (Go.Addr.mk g (0 : Nat) Option.none) (2 :
 Nat)) = Option.some (Go.Value.int Go.IntKind.i64 x_43) ∧ ∃ (x_44 : Option Go.Addr), ∃ (x_45 : Nat), ∃ (x_46 : Nat), Go.World.cell? w_1 (Go.Addr.add (Go.Addr.mk g (0 : Nat) Option.none) (3 : Nat)) =
 Option.some (Go.Value.slice x_44 x_45 x_46) ∧ ∃ (x_47 : Option Go.Addr), ∃ (x_48 : Nat), ∃ (x_49 : Nat), Go.World.cell? w_1 (Go.Addr.add (Go.Addr.mk g (0 : Nat) Option.none) (4 : Nat)) = Option.some
 (Go.Value.slice x_47 x_48 x_49) ∧ ∃ (x_50 : Option Go.Addr), ∃ (x_51 : Nat), ∃ (x_52 : Nat), Go.World.cell? w_1 (Go.Addr.add (Go.Addr.mk g (0 : Nat) Option.none) (5 : Nat)) = Option.some
 (Go.Value.slice x_50 x_51 x_52) ∧ ∃ (x_53 : Option Go.Addr), ∃ (x_54 : Nat), ∃ (x_55 : Nat), Go.World.cell? w_1 (Go.Addr.add (Go.Addr.mk g (0 : Nat) Option.none) (6 : Nat)) = Option.some
 (Go.Value.slice x_53 x_54 x_55) ∧ ∃ (x_56 : Option Go.Addr), ∃ (x_57 : Nat), ∃ (x_58 : Nat), Go.World.cell? w_1 (Go.Addr.add (Go.Addr.mk g (0 : Nat) Option.none) (7 : Nat)) = Option.some
 (Go.Value.slice x_56 x_57 x_58) ∧ ∃ (x_59 : Option Go.Addr), ∃ (x_60 : Nat), ∃ (x_61 : Nat), Go.World.cell? w_1 (Go.Addr.add (Go.Addr.mk g (0 : Nat) Option.none) (8 : Nat)) = Option.some
 (Go.Value.slice x_59 x_60 x_61) ∧ Go.Sx.CallsV Go.Proofs.Tryd.prog (21 : Nat) #[Go.Value.agg #[Go.Value.int Go.IntKind.i64 x, Go.Value.int Go.IntKind.i64 x_42, Go.Value.int Go.IntKind.i64 x_43,
 Go.Value.slice x_44 x_45 x_46, Go.Value.slice x_47 x_48 x_49, Go.Value.slice x_50 x_51 x_52, Go.Value.slice x_53 x_54 x_55, Go.Value.slice x_56 x_57 x_58, Go.Value.slice x_59 x_60 x_61], Go.Value.int
 Go.IntKind.i64 x_32] w_1 fun (v : Go.Value) (w' : Go.World) => ∃ (x : Bool), v = Go.Value.bool x ∧ bif !x then K (Go.Value.int Go.IntKind.i64 (140 : Int)) w' else I (Go.IntKind.wrap Go.IntKind.i64
 (x_32 + (1 : Int))) w' ∧ μ (Go.IntKind.wrap Go.IntKind.i64 (x_32 + (1 : Int))) w' < μ x_32 w else K (Go.Value.int Go.IntKind.i64 (0 : Int)) w
theorem code_Check.eq (p0 : Int) (p1 : Int) (p2 : Int) (p3_A : Option Addr) (p3_n : Nat) (p3_c : Nat) (p4_A : Option Addr) (p4_n : Nat) (p4_c : Nat) (p5_A : Option Addr) (p5_n : Nat) (p5_c : Nat) (p6_A : Option Addr) (p6_n : Nat) (p6_c : Nat) (p7_A : Option Addr) (p7_n : Nat) (p7_c : Nat) (p8_A : Option Addr) (p8_n : Nat) (p8_c : Nat) (w : World) (K : Value → World → Prop) : code_Check.W p0 p1 p2 p3_A p3_n p3_c p4_A p4_n p4_c p5_A p5_n p5_c p6_A p6_n p6_c p7_A p7_n p7_c p8_A p8_n p8_c w K = fnW Tryd.prog Tryd.f8 (.named (.seq .auto (.seq .auto (.seq (.seq .auto (.block (.loop [(38, .one (.int .i64))] (.seq .auto (.seq .auto (.seq (.block (.seq .auto (.seq .auto (.seq .auto (.seq (.seq .auto (.block (.loop [(57, .one (.int .i64))] .auto))) .auto))))) .auto)))))) .auto)))) [.agg #[.int .i64 p0, .int .i64 p1, .int .i64 p2, .slice p3_A p3_n p3_c, .slice p4_A p4_n p4_c, .slice p5_A p5_n p5_c, .slice p6_A p6_n p6_c, .slice p7_A p7_n p7_c, .slice p8_A p8_n p8_c]] w K := by kernel_rfl
theorem code_Check.calls (ok : Okay Tryd.prog) {p0 : Int} {p1 : Int} {p2 : Int} {p3_A : Option Addr} {p3_n : Nat} {p3_c : Nat} {p4_A : Option Addr} {p4_n : Nat} {p4_c : Nat} {p5_A : Option Addr} {p5_n : Nat} {p5_c : Nat} {p6_A : Option Addr} {p6_n : Nat} {p6_c : Nat} {p7_A : Option Addr} {p7_n : Nat} {p7_c : Nat} {p8_A : Option Addr} {p8_n : Nat} {p8_c : Nat} {w : World} {K : Value → World → Prop} (h : code_Check.W p0 p1 p2 p3_A p3_n p3_c p4_A p4_n p4_c p5_A p5_n p5_c p6_A p6_n p6_c p7_A p7_n p7_c p8_A p8_n p8_c w K) : CallsV Tryd.prog 8 #[.agg #[.int .i64 p0, .int .i64 p1, .int .i64 p2, .slice p3_A p3_n p3_c, .slice p4_A p4_n p4_c, .slice p5_A p5_n p5_c, .slice p6_A p6_n p6_c, .slice p7_A p7_n p7_c, .slice p8_A p8_n p8_c]] w K :=
  fnW_calls ok Tryd.func8 (an := (.named (.seq .auto (.seq .auto (.seq (.seq .auto (.block (.loop [(38, .one (.int .i64))] (.seq .auto (.seq .auto (.seq (.block (.seq .auto (.seq .auto (.seq .auto (.seq (.seq .auto (.block (.loop [(57, .one (.int .i64))] .auto))) .auto))))) .auto)))))) .auto))))) (args := [.agg #[.int .i64 p0, .int .i64 p1, .int .i64 p2, .slice p3_A p3_n p3_c, .slice p4_A p4_n p4_c, .slice p5_A p5_n p5_c, .slice p6_A p6_n p6_c, .slice p7_A p7_n p7_c, .slice p8_A p8_n p8_c]]) (by rw [← code_Check.eq]; exact h)
noncomputable def code_parts_1.W : Int → Int → Int → World → (Value → World → Prop) → Prop := fun (n low high : Int) (w : Go.World) (K : Go.Value → Go.World → Prop) => bif Decidable.decide (low ≤ n)
 then K (Go.Value.bool (Decidable.decide (n ≤ high))) w else K (Go.Value.bool Bool.false) w
theorem code_parts_1.eq (n : Int) (low : Int) (high : Int) (w : World) (K : Value → World → Prop) : code_parts_1.W n low high w K = fnW Tryd.prog Tryd.f34 (.named .auto) [.int .i64 n, .int .i64 low, .int .i64 high] w K := by kernel_rfl
theorem code_parts_1.calls (ok : Okay Tryd.prog) {n : Int} {low : Int} {high : Int} {w : World} {K : Value → World → Prop} (h : code_parts_1.W n low high w K) : CallsV Tryd.prog 34 #[.int .i64 n, .int .i64 low, .int .i64 high] w K :=
  fnW_calls ok Tryd.func34 (an := (.named .auto)) (args := [.int .i64 n, .int .i64 low, .int .i64 high]) (by rw [← code_parts_1.eq]; exact h)
noncomputable def code_parts_2.W : ByteArray → World → (Value → World → Prop) → Prop := fun (s : ByteArray) (w : Go.World) (K : Go.Value → Go.World → Prop) => K (Go.Value.bool (Decidable.decide ((200 :
 Int) < (↑(ByteArray.size s) : Int)))) w
theorem code_parts_2.eq (s : ByteArray) (w : World) (K : Value → World → Prop) : code_parts_2.W s w K = fnW Tryd.prog Tryd.f35 (.named .auto) [.string s] w K := by kernel_rfl
theorem code_parts_2.calls (ok : Okay Tryd.prog) {s : ByteArray} {w : World} {K : Value → World → Prop} (h : code_parts_2.W s w K) : CallsV Tryd.prog 35 #[.string s] w K :=
  fnW_calls ok Tryd.func35 (an := (.named .auto)) (args := [.string s]) (by rw [← code_parts_2.eq]; exact h)
noncomputable def code_parts_3.W : Int → Int → ByteArray → World → (Value → World → Prop) → Prop := fun (v0 v1 : Int) (v2 : ByteArray) (w : Go.World) (K : Go.Value → Go.World → Prop) => ∀ (g : Nat) (w'
 : Go.World), Go.Sx.Fresh w g w' [Go.Value.int Go.IntKind.u8 v0, Go.Value.int Go.IntKind.i64 v1, Go.Value.string v2] (51 : Nat) → ∃ (x : Int), Go.World.cell? w' (Go.Addr.add (Go.Addr.mk g (0 : Nat)
 Option.none) (0 : Nat)) = Option.some (Go.Value.int Go.IntKind.u8 x) ∧ ∃ (x_1 : Int), Go.World.cell? w' (Go.Addr.add (Go.Addr.mk g (0 : Nat) Option.none) (1 : Nat)) = Option.some (Go.Value.int
 Go.IntKind.i64 x_1) ∧ ∃ (x_2 : ByteArray), Go.World.cell? w' (Go.Addr.add (Go.Addr.mk g (0 : Nat) Option.none) (2 : Nat)) = Option.some (Go.Value.string x_2) ∧ Go.Sx.CallsV Go.Proofs.Tryd.prog (37 :
 Nat) #[Go.Value.agg #[Go.Value.int Go.IntKind.u8 x, Go.Value.int Go.IntKind.i64 x_1, Go.Value.string x_2]] w' fun (v : Go.Value) (w' : Go.World) => ∃ (x : Bool), v = Go.Value.bool x ∧ K (Go.Value.bool
 !x) w'
theorem code_parts_3.eq (v0 : Int) (v1 : Int) (v2 : ByteArray) (w : World) (K : Value → World → Prop) : code_parts_3.W v0 v1 v2 w K = fnW Tryd.prog Tryd.f36 (.named .auto) [.agg #[.int .u8 v0, .int .i64 v1, .string v2]] w K := by kernel_rfl
theorem code_parts_3.calls (ok : Okay Tryd.prog) {v0 : Int} {v1 : Int} {v2 : ByteArray} {w : World} {K : Value → World → Prop} (h : code_parts_3.W v0 v1 v2 w K) : CallsV Tryd.prog 36 #[.agg #[.int .u8 v0, .int .i64 v1, .string v2]] w K :=
  fnW_calls ok Tryd.func36 (an := (.named .auto)) (args := [.agg #[.int .u8 v0, .int .i64 v1, .string v2]]) (by rw [← code_parts_3.eq]; exact h)
noncomputable def code_parts_4.W : ByteArray → Bool → Bool → World → (Value → World → Prop) → Prop := fun (c0 : ByteArray) (c1 c2 : Bool) (w : Go.World) (K : Go.Value → Go.World → Prop) => ∀ (g : Nat)
 (w' : Go.World), Go.Sx.Fresh w g w' [Go.Value.string c0, Go.Value.bool c1, Go.Value.bool c2] (53 : Nat) → ∃ (x : ByteArray), Go.World.cell? w' (Go.Addr.add (Go.Addr.mk g (0 : Nat) Option.none) (0 :
 Nat)) = Option.some (Go.Value.string x) ∧ bif ByteArray.toList x == ByteArray.toList (ByteArray.mk #[]) then K (Go.Value.bool Bool.true) w' else ∃ (x : ByteArray), Go.World.cell? w' (Go.Addr.add
 (Go.Addr.mk g (0 : Nat) Option.none) (0 : Nat)) = Option.some (Go.Value.string x) ∧ bif Decidable.decide ((200 : Int) < (↑(ByteArray.size x) : Int)) then K (Go.Value.bool Bool.true) w' else ∃ (x :
 Bool), Go.World.cell? w' (Go.Addr.add (Go.Addr.mk g (0 : Nat) Option.none) (1 : Nat)) = Option.some (Go.Value.bool x) ∧ bif x then ∃ (x : Bool), Go.World.cell? w' (Go.Addr.add (Go.Addr.mk g (0 : Nat)
 Option.none) (2 : Nat)) = Option.some (Go.Value.bool x) ∧ K (Go.Value.bool x) w' else K (Go.Value.bool Bool.false) w'
theorem code_parts_4.eq (c0 : ByteArray) (c1 : Bool) (c2 : Bool) (w : World) (K : Value → World → Prop) : code_parts_4.W c0 c1 c2 w K = fnW Tryd.prog Tryd.f38 (.named .auto) [.agg #[.string c0, .bool c1, .bool c2]] w K := by kernel_rfl
theorem code_parts_4.calls (ok : Okay Tryd.prog) {c0 : ByteArray} {c1 : Bool} {c2 : Bool} {w : World} {K : Value → World → Prop} (h : code_parts_4.W c0 c1 c2 w K) : CallsV Tryd.prog 38 #[.agg #[.string c0, .bool c1, .bool c2]] w K :=
  fnW_calls ok Tryd.func38 (an := (.named .auto)) (args := [.agg #[.string c0, .bool c1, .bool c2]]) (by rw [← code_parts_4.eq]; exact h)
noncomputable def code_parts_6.W : ByteArray → Bool → World → (Value → World → Prop) → Prop := fun (t0 : ByteArray) (t1 : Bool) (w : Go.World) (K : Go.Value → Go.World → Prop) => ∀ (g : Nat) (w' :
 Go.World), Go.Sx.Fresh w g w' [Go.Value.string t0, Go.Value.bool t1] (58 : Nat) → ∃ (x : ByteArray), Go.World.cell? w' (Go.Addr.add (Go.Addr.mk g (0 : Nat) Option.none) (0 : Nat)) = Option.some
 (Go.Value.string x) ∧ ∃ (x_1 : Bool), Go.World.cell? w' (Go.Addr.add (Go.Addr.mk g (0 : Nat) Option.none) (1 : Nat)) = Option.some (Go.Value.bool x_1) ∧ Go.Sx.CallsV Go.Proofs.Tryd.prog (41 : Nat)
 #[Go.Value.string x, Go.Value.bool x_1] w' fun (v : Go.Value) (w' : Go.World) => ∃ (x : Option Go.Addr), ∃ (x_2 : Int), v = Go.Value.tuple #[Go.Value.pointer x, Go.Value.int Go.IntKind.i64 x_2] ∧ K
 (Go.Value.bool !Decidable.decide (x_2 = (0 : Int))) w'
theorem code_parts_6.eq (t0 : ByteArray) (t1 : Bool) (w : World) (K : Value → World → Prop) : code_parts_6.W t0 t1 w K = fnW Tryd.prog Tryd.f40 (.named .auto) [.agg #[.string t0, .bool t1]] w K := by kernel_rfl
theorem code_parts_6.calls (ok : Okay Tryd.prog) {t0 : ByteArray} {t1 : Bool} {w : World} {K : Value → World → Prop} (h : code_parts_6.W t0 t1 w K) : CallsV Tryd.prog 40 #[.agg #[.string t0, .bool t1]] w K :=
  fnW_calls ok Tryd.func40 (an := (.named .auto)) (args := [.agg #[.string t0, .bool t1]]) (by rw [← code_parts_6.eq]; exact h)
noncomputable def code_shape.W : Int → World → (Value → World → Prop) → Prop := fun (o : Int) (w : Go.World) (K : Go.Value → Go.World → Prop) => ∃ (x : Option Nat), ∃ (w' : Go.World), Go.Sx.RunsTo
 Go.Proofs.Tryd.prog (Go.Instr.makeMap (93 : Nat) Option.none) w (Go.Value.map x) w' ∧ ∃ (w'_1 : Go.World), Go.Sx.RunsTo Go.Proofs.Tryd.prog (Go.Instr.mapUpdate (93 : Nat) (Go.Value.map x) (Go.Value.int
 Go.IntKind.u8 (1 : Int)) (Go.Value.agg #[Go.Value.string (ByteArray.mk #[(114 : UInt8), (107 : UInt8), (45 : UInt8), (45 : UInt8)])])) w' () w'_1 ∧ ∃ (w' : Go.World), Go.Sx.RunsTo Go.Proofs.Tryd.prog
 (Go.Instr.mapUpdate (93 : Nat) (Go.Value.map x) (Go.Value.int Go.IntKind.u8 (2 : Int)) (Go.Value.agg #[Go.Value.string (ByteArray.mk #[(114 : UInt8), (98 : UInt8), (45 : UInt8), (45 : UInt8)])])) w'_1
 () w' ∧ ∃ (w'_2 : Go.World), Go.Sx.RunsTo Go.Proofs.Tryd.prog (Go.Instr.mapUpdate (93 : Nat) (Go.Value.map x) (Go.Value.int Go.IntKind.u8 (3 : Int)) (Go.Value.agg #[Go.Value.string (ByteArray.mk #[(114
 : UInt8), (114 : UInt8), (45 : UInt8), (45 : UInt8)])])) w' () w'_2 ∧ ∃ (w' : Go.World), Go.Sx.RunsTo Go.Proofs.Tryd.prog (Go.Instr.mapUpdate (93 : Nat) (Go.Value.map x) (Go.Value.int Go.IntKind.u8 (4
 : Int)) (Go.Value.agg #[Go.Value.string (ByteArray.mk #[(114 : UInt8), (114 : UInt8), (114 : UInt8), (50 : UInt8)])])) w'_2 () w' ∧ ∃ (w'_3 : Go.World), Go.Sx.RunsTo Go.Proofs.Tryd.prog
 (Go.Instr.mapUpdate (93 : Nat) (Go.Value.map x) (Go.Value.int Go.IntKind.u8 (5 : Int)) (Go.Value.agg #[Go.Value.string (ByteArray.mk #[(114 : UInt8), (114 : UInt8), (45 : UInt8), (49 : UInt8)])])) w'
 () w'_3 ∧ ∃ (w' : Go.World), Go.Sx.RunsTo Go.Proofs.Tryd.prog (Go.Instr.mapUpdate (93 : Nat) (Go.Value.map x) (Go.Value.int Go.IntKind.u8 (6 : Int)) (Go.Value.agg #[Go.Value.string (ByteArray.mk #[(114
 : UInt8), (114 : UInt8), (45 : UInt8), (49 : UInt8)])])) w'_3 () w' ∧ ∃ (w'_4 : Go.World), Go.Sx.RunsTo Go.Proofs.Tryd.prog (Go.Instr.mapUpdate (93 : Nat) (Go.Value.map x) (Go.Value.int Go.IntKind.u8
 (7 : Int)) (Go.Value.agg #[Go.Value.string (ByteArray.mk #[(114 : UInt8), (114 : UInt8), (45 : UInt8), (49 : UInt8)])])) w' () w'_4 ∧ ∃ (w' : Go.World), Go.Sx.RunsTo Go.Proofs.Tryd.prog
 (Go.Instr.mapUpdate (93 : Nat) (Go.Value.map x) (Go.Value.int Go.IntKind.u8 (8 : Int)) (Go.Value.agg #[Go.Value.string (ByteArray.mk #[(114 : UInt8), (114 : UInt8), (109 : UInt8), (102 : UInt8)])]))
 w'_4 () w' ∧ ∃ (w'_5 : Go.World), Go.Sx.RunsTo Go.Proofs.Tryd.prog (Go.Instr.mapUpdate (93 : Nat) (Go.Value.map x) (Go.Value.int Go.IntKind.u8 (9 : Int)) (Go.Value.agg #[Go.Value.string (ByteArray.mk
 #[(114 : UInt8), (45 : UInt8), (45 : UInt8), (49 : UInt8)])])) w' () w'_5 ∧ ∃ (w' : Go.World), Go.Sx.RunsTo Go.Proofs.Tryd.prog (Go.Instr.mapUpdate (93 : Nat) (Go.Value.map x) (Go.Value.int
 Go.IntKind.u8 (10 : Int)) (Go.Value.agg #[Go.Value.string (ByteArray.mk #[(106 : UInt8), (45 : UInt8), (45 : UInt8), (45 : UInt8)])])) w'_5 () w' ∧ ∃ (w'_6 : Go.World), Go.Sx.RunsTo Go.Proofs.Tryd.prog
 (Go.Instr.mapUpdate (93 : Nat) (Go.Value.map x) (Go.Value.int Go.IntKind.u8 (11 : Int)) (Go.Value.agg #[Go.Value.string (ByteArray.mk #[(106 : UInt8), (114 : UInt8), (45 : UInt8), (45 : UInt8)])])) w'
 () w'_6 ∧ ∃ (w' : Go.World), Go.Sx.RunsTo Go.Proofs.Tryd.prog (Go.Instr.mapUpdate (93 : Nat) (Go.Value.map x) (Go.Value.int Go.IntKind.u8 (12 : Int)) (Go.Value.agg #[Go.Value.string (ByteArray.mk
 #[(106 : UInt8), (114 : UInt8), (114 : UInt8), (109 : UInt8)])])) w'_6 () w' ∧ ∃ (w'_7 : Go.World), Go.Sx.RunsTo Go.Proofs.Tryd.prog (Go.Instr.mapUpdate (93 : Nat) (Go.Value.map x) (Go.Value.int
 Go.IntKind.u8 (13 : Int)) (Go.Value.agg #[Go.Value.string (ByteArray.mk #[(99 : UInt8), (106 : UInt8), (45 : UInt8), (45 : UInt8)])])) w' () w'_7 ∧ ∃ (w' : Go.World), Go.Sx.RunsTo Go.Proofs.Tryd.prog
 (Go.Instr.mapUpdate (93 : Nat) (Go.Value.map x) (Go.Value.int Go.IntKind.u8 (14 : Int)) (Go.Value.agg #[Go.Value.string (ByteArray.mk #[(105 : UInt8), (106 : UInt8), (114 : UInt8), (109 : UInt8)])]))
 w'_7 () w' ∧ ∃ (w'_8 : Go.World), Go.Sx.RunsTo Go.Proofs.Tryd.prog (Go.Instr.mapUpdate (93 : Nat) (Go.Value.map x) (Go.Value.int Go.IntKind.u8 (15 : Int)) (Go.Value.agg #[Go.Value.string (ByteArray.mk
 #[(99 : UInt8), (110 : UInt8), (45 : UInt8), (45 : UInt8)])])) w' () w'_8 ∧ ∃ (w' : Go.World), Go.Sx.RunsTo Go.Proofs.Tryd.prog (Go.Instr.mapUpdate (93 : Nat) (Go.Value.map x) (Go.Value.int
 Go.IntKind.u8 (16 : Int)) (Go.Value.agg #[Go.Value.string (ByteArray.mk #[(105 : UInt8), (106 : UInt8), (114 : UInt8), (109 : UInt8)])])) w'_8 () w' ∧ ∃ (w'_9 : Go.World), Go.Sx.RunsTo
 Go.Proofs.Tryd.prog (Go.Instr.mapUpdate (93 : Nat) (Go.Value.map x) (Go.Value.int Go.IntKind.u8 (17 : Int)) (Go.Value.agg #[Go.Value.string (ByteArray.mk #[(108 : UInt8), (106 : UInt8), (114 : UInt8),
 (45 : UInt8)])])) w' () w'_9 ∧ ∃ (w' : Go.World), Go.Sx.RunsTo Go.Proofs.Tryd.prog (Go.Instr.mapUpdate (93 : Nat) (Go.Value.map x) (Go.Value.int Go.IntKind.u8 (18 : Int)) (Go.Value.agg
 #[Go.Value.string (ByteArray.mk #[(114 : UInt8), (99 : UInt8), (120 : UInt8), (45 : UInt8)])])) w'_9 () w' ∧ ∃ (w'_10 : Go.World), Go.Sx.RunsTo Go.Proofs.Tryd.prog (Go.Instr.mapUpdate (93 : Nat)
 (Go.Value.map x) (Go.Value.int Go.IntKind.u8 (19 : Int)) (Go.Value.agg #[Go.Value.string (ByteArray.mk #[(114 : UInt8), (99 : UInt8), (45 : UInt8), (45 : UInt8)])])) w' () w'_10 ∧ ∃ (w' : Go.World),
 Go.Sx.RunsTo Go.Proofs.Tryd.prog (Go.Instr.mapUpdate (93 : Nat) (Go.Value.map x) (Go.Value.int Go.IntKind.u8 (20 : Int)) (Go.Value.agg #[Go.Value.string (ByteArray.mk #[(115 : UInt8), (114 : UInt8),
 (114 : UInt8), (45 : UInt8)])])) w'_10 () w' ∧ ∃ (w'_11 : Go.World), Go.Sx.RunsTo Go.Proofs.Tryd.prog (Go.Instr.mapUpdate (93 : Nat) (Go.Value.map x) (Go.Value.int Go.IntKind.u8 (21 : Int))
 (Go.Value.agg #[Go.Value.string (ByteArray.mk #[(115 : UInt8), (106 : UInt8), (45 : UInt8), (45 : UInt8)])])) w' () w'_11 ∧ ∃ (w' : Go.World), Go.Sx.RunsTo Go.Proofs.Tryd.prog (Go.Instr.mapUpdate (93 :
 Nat) (Go.Value.map x) (Go.Value.int Go.IntKind.u8 (22 : Int)) (Go.Value.agg #[Go.Value.string (ByteArray.mk #[(115 : UInt8), (110 : UInt8), (45 : UInt8), (45 : UInt8)])])) w'_11 () w' ∧ ∃ (w'_12 :
 Go.World), Go.Sx.RunsTo Go.Proofs.Tryd.prog (Go.Instr.mapUpdate (93 : Nat) (Go.Value.map x) (Go.Value.int Go.IntKind.u8 (23 : Int)) (Go.Value.agg #[Go.Value.string (ByteArray.mk #[(114 : UInt8), (115 :
 UInt8), (120 : UInt8), (45 : UInt8)])])) w' () w'_12 ∧ ∃ (w' : Go.World), Go.Sx.RunsTo Go.Proofs.Tryd.prog (Go.Instr.mapUpdate (93 : Nat) (Go.Value.map x) (Go.Value.int Go.IntKind.u8 (24 : Int))
 (Go.Value.agg #[Go.Value.string (ByteArray.mk #[(116 : UInt8), (45 : UInt8), (45 : UInt8), (45 : UInt8)])])) w'_12 () w' ∧ ∃ (w'_13 : Go.World), Go.Sx.RunsTo Go.Proofs.Tryd.prog (Go.Instr.mapUpdate (93
 : Nat) (Go.Value.map x) (Go.Value.int Go.IntKind.u8 (25 : Int)) (Go.Value.agg #[Go.Value.string (ByteArray.mk #[(116 : UInt8), (114 : UInt8), (45 : UInt8), (45 : UInt8)])])) w' () w'_13 ∧ ∃ (w' :
 Go.World), Go.Sx.RunsTo Go.Proofs.Tryd.prog (Go.Instr.mapUpdate (93 : Nat) (Go.Value.map x) (Go.Value.int Go.IntKind.u8 (26 : Int)) (Go.Value.agg #[Go.Value.string (ByteArray.mk #[(114 : UInt8), (116 :
 UInt8), (45 : UInt8), (45 : UInt8)])])) w'_13 () w' ∧ ∃ (w'_14 : Go.World), Go.Sx.RunsTo Go.Proofs.Tryd.prog (Go.Instr.mapUpdate (93 : Nat) (Go.Value.map x) (Go.Value.int Go.IntKind.u8 (27 : Int))
 (Go.Value.agg #[Go.Value.string (ByteArray.mk #[(114 : UInt8), (45 : UInt8), (45 : UInt8), (45 : UInt8)])])) w' () w'_14 ∧ ∃ (w' : Go.World), Go.Sx.RunsTo Go.Proofs.Tryd.prog (Go.Instr.mapUpdate (93 :
 Nat) (Go.Value.map x) (Go.Value.int Go.IntKind.u8 (28 : Int)) (Go.Value.agg #[Go.Value.string (ByteArray.mk #[(114 : UInt8), (119 : UInt8), (45 : UInt8), (45 : UInt8)])])) w'_14 () w' ∧ ∃ (w'_15 :
 Go.World), Go.Sx.RunsTo Go.Proofs.Tryd.prog (Go.Instr.mapUpdate (93 : Nat) (Go.Value.map x) (Go.Value.int Go.IntKind.u8 (29 : Int)) (Go.Value.agg #[Go.Value.string (ByteArray.mk #[(119 : UInt8), (114 :
 UInt8), (114 : UInt8), (45 : UInt8)])])) w' () w'_15 ∧ ∃ (w' : Go.World), Go.Sx.RunsTo Go.Proofs.Tryd.prog (Go.Instr.mapUpdate (93 : Nat) (Go.Value.map x) (Go.Value.int Go.IntKind.u8 (30 : Int))
 (Go.Value.agg #[Go.Value.string (ByteArray.mk #[(119 : UInt8), (114 : UInt8), (45 : UInt8), (45 : UInt8)])])) w'_15 () w' ∧ ∃ (w'_16 : Go.World), Go.Sx.RunsTo Go.Proofs.Tryd.prog (Go.Instr.mapUpdate
 (93 : Nat) (Go.Value.map x) (Go.Value.int Go.IntKind.u8 (31 : Int)) (Go.Value.agg #[Go.Value.string (ByteArray.mk #[(113 : UInt8), (45 : UInt8), (45 : UInt8), (45 : UInt8)])])) w' () w'_16 ∧ ∃ (w' :
 Go.World), Go.Sx.RunsTo Go.Proofs.Tryd.prog (Go.Instr.mapUpdate (93 : Nat) (Go.Value.map x) (Go.Value.int Go.IntKind.u8 (32 : Int)) (Go.Value.agg #[Go.Value.string (ByteArray.mk #[(45 : UInt8), (45 :
 UInt8), (45 : UInt8), (45 : UInt8)])])) w'_16 () w' ∧ ∃ (w'_17 : Go.World), Go.Sx.RunsTo Go.Proofs.Tryd.prog (Go.Instr.mapUpdate (93 : Nat) (Go.Value.map x) (Go.Value.int Go.IntKind.u8 (33 : Int))
 (Go.Value.agg #[Go.Value.string (ByteArray.mk #[(45 : UInt8), (45 : UInt8), (45 : UInt8), (45 : UInt8)])])) w' () w'_17 ∧ ∃ (w' : Go.World), Go.Sx.RunsTo Go.Proofs.Tryd.prog (Go.Instr.mapUpdate (93 :
 Nat) (Go.Value.map x) (Go.Value.int Go.IntKind.u8 (34 : Int)) (Go.Value.agg #[Go.Value.string (ByteArray.mk #[(45 : UInt8), (45 : UInt8), (45 : UInt8), (45 : UInt8)])])) w'_17 () w' ∧ ∃ (w'_18 :
 Go.World), Go.Sx.RunsTo Go.Proofs.Tryd.prog (Go.Instr.mapUpdate (93 : Nat) (Go.Value.map x) (Go.Value.int Go.IntKind.u8 (35 : Int)) (Go.Value.agg #[Go.Value.string (ByteArray.mk #[(45 : UInt8), (45 :
 UInt8), (45 : UInt8), (45 : UInt8)])])) w' () w'_18 ∧ ∃ (x_1 : ByteArray), ∃ (w' : Go.World), Go.Sx.RunsTo Go.Proofs.Tryd.prog (Go.Instr.lookup (93 : Nat) (Go.Value.map x) (Go.Value.int Go.IntKind.u8
 o) Bool.false) w'_18 (Go.Value.agg #[Go.Value.string x_1]) w' ∧ K (Go.Value.string x_1) w'
theorem code_shape.eq (o : Int) (w : World) (K : Value → World → Prop) : code_shape.W o w K = fnW Tryd.prog Tryd.f19 (.named .auto) [.int .u8 o] w K := by kernel_rfl
theorem code_shape.calls (ok : Okay Tryd.prog) {o : Int} {w : World} {K : Value → World → Prop} (h : code_shape.W o w K) : CallsV Tryd.prog 19 #[.int .u8 o] w K :=
  fnW_calls ok Tryd.func19 (an := (.named .auto)) (args := [.int .u8 o]) (by rw [← code_shape.eq]; exact h)
noncomputable def code_field_1.W : Int → Addr → World → (Value → World → Prop) → Prop := fun (high : Int) (a1 : Go.Addr) (w : Go.World) (K : Go.Value → Go.World → Prop) => ∀ (g : Nat) (w' : Go.World),
 Go.Sx.Fresh w g w' [Go.Value.int Go.IntKind.i64 high] (3 : Nat) → K (Go.Value.func (Go.Fn.func (48 : Nat)) #[] #[Go.Value.pointer (Option.some a1), Go.Value.pointer (Option.some (Go.Addr.mk g (0 : Nat)
 Option.none))]) w'
theorem code_field_1.eq (high : Int) (a1 : Addr) (w : World) (K : Value → World → Prop) : code_field_1.W high a1 w K = fnW Tryd.prog Tryd.f47 (.named .auto) [.int .i64 high, .pointer (some a1)] w K := by kernel_rfl
theorem code_field_1.calls (ok : Okay Tryd.prog) {high : Int} {a1 : Addr} {w : World} {K : Value → World → Prop} (h : code_field_1.W high a1 w K) : CallsV Tryd.prog 47 #[.int .i64 high, .pointer (some a1)] w K :=
  fnW_calls ok Tryd.func47 (an := (.named .auto)) (args := [.int .i64 high, .pointer (some a1)]) (by rw [← code_field_1.eq]; exact h)
noncomputable def code_field_1_1.W : Addr → Addr → World → (Value → World → Prop) → Prop := fun (a0 a1 : Go.Addr) (w : Go.World) (K : Go.Value → Go.World → Prop) => ∃ (x : Int), Go.World.cell? w a0 =
 Option.some (Go.Value.int Go.IntKind.i64 x) ∧ bif Decidable.decide ((0 : Int) ≤ x) then ∃ (x : Int), Go.World.cell? w a0 = Option.some (Go.Value.int Go.IntKind.i64 x) ∧ ∃ (x_1 : Int), Go.World.cell? w
 a1 = Option.some (Go.Value.int Go.IntKind.i64 x_1) ∧ K (Go.Value.bool (Decidable.decide (x < x_1))) w else K (Go.Value.bool Bool.false) w
theorem code_field_1_1.eq (a0 : Addr) (a1 : Addr) (w : World) (K : Value → World → Prop) : code_field_1_1.W a0 a1 w K = fnW Tryd.prog Tryd.f48 (.named .auto) [.pointer (some a0), .pointer (some a1)] w K := by kernel_rfl
theorem code_field_1_1.calls (ok : Okay Tryd.prog) {a0 : Addr} {a1 : Addr} {w : World} {K : Value → World → Prop} (h : code_field_1_1.W a0 a1 w K) : CallsV Tryd.prog 48 #[.pointer (some a0), .pointer (some a1)] w K :=
  fnW_calls ok Tryd.func48 (an := (.named .auto)) (args := [.pointer (some a0), .pointer (some a1)]) (by rw [← code_field_1_1.eq]; exact h)
noncomputable def code_field_3.W : Addr → World → (Value → World → Prop) → Prop := fun (a0 : Go.Addr) (w : Go.World) (K : Go.Value → Go.World → Prop) => ∃ (x : Int), Go.World.cell? w a0 = Option.some
 (Go.Value.int Go.IntKind.i64 x) ∧ K (Go.Value.bool (Decidable.decide (x = (0 : Int)))) w
theorem code_field_3.eq (a0 : Addr) (w : World) (K : Value → World → Prop) : code_field_3.W a0 w K = fnW Tryd.prog Tryd.f51 (.named .auto) [.pointer (some a0)] w K := by kernel_rfl
theorem code_field_3.calls (ok : Okay Tryd.prog) {a0 : Addr} {w : World} {K : Value → World → Prop} (h : code_field_3.W a0 w K) : CallsV Tryd.prog 51 #[.pointer (some a0)] w K :=
  fnW_calls ok Tryd.func51 (an := (.named .auto)) (args := [.pointer (some a0)]) (by rw [← code_field_3.eq]; exact h)
noncomputable def code_field_4.W : Addr → Addr → Addr → World → (Value → World → Prop) → Prop := fun (a0 a1 a2 : Go.Addr) (w : Go.World) (K : Go.Value → Go.World → Prop) => ∃ (x : Int), Go.World.cell?
 w a0 = Option.some (Go.Value.int Go.IntKind.i64 x) ∧ ∃ (x_1 : Int), Go.World.cell? w a1 = Option.some (Go.Value.int Go.IntKind.i64 x_1) ∧ bif Decidable.decide (x_1 < x) then ∃ (x : Int), Go.World.cell?
 w a0 = Option.some (Go.Value.int Go.IntKind.i64 x) ∧ ∃ (x_2 : Option Go.Addr), ∃ (x_3 : Nat), ∃ (x_4 : Nat), Go.World.cell? w (Go.Addr.add a2 (8 : Nat)) = Option.some (Go.Value.slice x_2 x_3 x_4) ∧ K
 (Go.Value.bool (Decidable.decide (x < (↑x_3 : Int)))) w else K (Go.Value.bool Bool.false) w
theorem code_field_4.eq (a0 : Addr) (a1 : Addr) (a2 : Addr) (w : World) (K : Value → World → Prop) : code_field_4.W a0 a1 a2 w K = fnW Tryd.prog Tryd.f52 (.named .auto) [.pointer (some a0), .pointer (some a1), .pointer (some a2)] w K := by kernel_rfl
theorem code_field_4.calls (ok : Okay Tryd.prog) {a0 : Addr} {a1 : Addr} {a2 : Addr} {w : World} {K : Value → World → Prop} (h : code_field_4.W a0 a1 a2 w K) : CallsV Tryd.prog 52 #[.pointer (some a0), .pointer (some a1), .pointer (some a2)] w K :=
  fnW_calls ok Tryd.func52 (an := (.named .auto)) (args := [.pointer (some a0), .pointer (some a1), .pointer (some a2)]) (by rw [← code_field_4.eq]; exact h)
noncomputable def code_field_5.W : Addr → Addr → World → (Value → World → Prop) → Prop := fun (a0 a1 : Go.Addr) (w : Go.World) (K : Go.Value → Go.World → Prop) => ∃ (x : Int), Go.World.cell? w a0 =
 Option.some (Go.Value.int Go.IntKind.i64 x) ∧ bif Decidable.decide ((1 : Int) ≤ x) then ∃ (x : Int), Go.World.cell? w a0 = Option.some (Go.Value.int Go.IntKind.i64 x) ∧ ∃ (x_1 : Int), Go.World.cell? w
 a1 = Option.some (Go.Value.int Go.IntKind.i64 x_1) ∧ K (Go.Value.bool (Decidable.decide (x ≤ x_1))) w else K (Go.Value.bool Bool.false) w
theorem code_field_5.eq (a0 : Addr) (a1 : Addr) (w : World) (K : Value → World → Prop) : code_field_5.W a0 a1 w K = fnW Tryd.prog Tryd.f53 (.named .auto) [.pointer (some a0), .pointer (some a1)] w K := by kernel_rfl
theorem code_field_5.calls (ok : Okay Tryd.prog) {a0 : Addr} {a1 : Addr} {w : World} {K : Value → World → Prop} (h : code_field_5.W a0 a1 w K) : CallsV Tryd.prog 53 #[.pointer (some a0), .pointer (some a1)] w K :=
  fnW_calls ok Tryd.func53 (an := (.named .auto)) (args := [.pointer (some a0), .pointer (some a1)]) (by rw [← code_field_5.eq]; exact h)
noncomputable def code_field_6.W : Addr → Addr → World → (Value → World → Prop) → Prop := fun (a0 a1 : Go.Addr) (w : Go.World) (K : Go.Value → Go.World → Prop) => ∃ (x : Int), Go.World.cell? w a0 =
 Option.some (Go.Value.int Go.IntKind.i64 x) ∧ bif Decidable.decide ((1 : Int) ≤ x) then ∃ (x : Int), Go.World.cell? w a0 = Option.some (Go.Value.int Go.IntKind.i64 x) ∧ ∃ (x_1 : Int), Go.World.cell? w
 (Go.Addr.add a1 (1 : Nat)) = Option.some (Go.Value.int Go.IntKind.i64 x_1) ∧ K (Go.Value.bool (Decidable.decide (x ≤ x_1))) w else K (Go.Value.bool Bool.false) w
theorem code_field_6.eq (a0 : Addr) (a1 : Addr) (w : World) (K : Value → World → Prop) : code_field_6.W a0 a1 w K = fnW Tryd.prog Tryd.f54 (.named .auto) [.pointer (some a0), .pointer (some a1)] w K := by kernel_rfl
theorem code_field_6.calls (ok : Okay Tryd.prog) {a0 : Addr} {a1 : Addr} {w : World} {K : Value → World → Prop} (h : code_field_6.W a0 a1 w K) : CallsV Tryd.prog 54 #[.pointer (some a0), .pointer (some a1)] w K :=
  fnW_calls ok Tryd.func54 (an := (.named .auto)) (args := [.pointer (some a0), .pointer (some a1)]) (by rw [← code_field_6.eq]; exact h)
noncomputable def code_field_7.W : ByteArray → Bool → Bool → World → (Value → World → Prop) → Prop := fun (c0 : ByteArray) (c1 c2 : Bool) (w : Go.World) (K : Go.Value → Go.World → Prop) => ∀ (g : Nat)
 (w' : Go.World), Go.Sx.Fresh w g w' [Go.Value.string c0, Go.Value.bool c1, Go.Value.bool c2] (53 : Nat) → ∃ (x : Bool), Go.World.cell? w' (Go.Addr.add (Go.Addr.mk g (0 : Nat) Option.none) (1 : Nat)) =
 Option.some (Go.Value.bool x) ∧ K (Go.Value.bool x) w'
theorem code_field_7.eq (c0 : ByteArray) (c1 : Bool) (c2 : Bool) (w : World) (K : Value → World → Prop) : code_field_7.W c0 c1 c2 w K = fnW Tryd.prog Tryd.f55 (.named .auto) [.agg #[.string c0, .bool c1, .bool c2]] w K := by kernel_rfl
theorem code_field_7.calls (ok : Okay Tryd.prog) {c0 : ByteArray} {c1 : Bool} {c2 : Bool} {w : World} {K : Value → World → Prop} (h : code_field_7.W c0 c1 c2 w K) : CallsV Tryd.prog 55 #[.agg #[.string c0, .bool c1, .bool c2]] w K :=
  fnW_calls ok Tryd.func55 (an := (.named .auto)) (args := [.agg #[.string c0, .bool c1, .bool c2]]) (by rw [← code_field_7.eq]; exact h)
noncomputable def code_field_8.W : ByteArray → Bool → Bool → World → (Value → World → Prop) → Prop := fun (c0 : ByteArray) (c1 c2 : Bool) (w : Go.World) (K : Go.Value → Go.World → Prop) => ∀ (g : Nat)
 (w' : Go.World), Go.Sx.Fresh w g w' [Go.Value.string c0, Go.Value.bool c1, Go.Value.bool c2] (53 : Nat) → ∃ (x : Bool), Go.World.cell? w' (Go.Addr.add (Go.Addr.mk g (0 : Nat) Option.none) (1 : Nat)) =
 Option.some (Go.Value.bool x) ∧ K (Go.Value.bool !x) w'
theorem code_field_8.eq (c0 : ByteArray) (c1 : Bool) (c2 : Bool) (w : World) (K : Value → World → Prop) : code_field_8.W c0 c1 c2 w K = fnW Tryd.prog Tryd.f56 (.named .auto) [.agg #[.string c0, .bool c1, .bool c2]] w K := by kernel_rfl
theorem code_field_8.calls (ok : Okay Tryd.prog) {c0 : ByteArray} {c1 : Bool} {c2 : Bool} {w : World} {K : Value → World → Prop} (h : code_field_8.W c0 c1 c2 w K) : CallsV Tryd.prog 56 #[.agg #[.string c0, .bool c1, .bool c2]] w K :=
  fnW_calls ok Tryd.func56 (an := (.named .auto)) (args := [.agg #[.string c0, .bool c1, .bool c2]]) (by rw [← code_field_8.eq]; exact h)
noncomputable def code_field_9.W : ByteArray → Bool → Bool → World → (Value → World → Prop) → Prop := fun (c0 : ByteArray) (c1 c2 : Bool) (w : Go.World) (K : Go.Value → Go.World → Prop) => ∀ (g : Nat)
 (w' : Go.World), Go.Sx.Fresh w g w' [Go.Value.string c0, Go.Value.bool c1, Go.Value.bool c2] (53 : Nat) → ∃ (x : Bool), Go.World.cell? w' (Go.Addr.add (Go.Addr.mk g (0 : Nat) Option.none) (1 : Nat)) =
 Option.some (Go.Value.bool x) ∧ bif !x then ∃ (x : Bool), Go.World.cell? w' (Go.Addr.add (Go.Addr.mk g (0 : Nat) Option.none) (2 : Nat)) = Option.some (Go.Value.bool x) ∧ K (Go.Value.bool x) w' else K
 (Go.Value.bool Bool.false) w'
theorem code_field_9.eq (c0 : ByteArray) (c1 : Bool) (c2 : Bool) (w : World) (K : Value → World → Prop) : code_field_9.W c0 c1 c2 w K = fnW Tryd.prog Tryd.f57 (.named .auto) [.agg #[.string c0, .bool c1, .bool c2]] w K := by kernel_rfl
theorem code_field_9.calls (ok : Okay Tryd.prog) {c0 : ByteArray} {c1 : Bool} {c2 : Bool} {w : World} {K : Value → World → Prop} (h : code_field_9.W c0 c1 c2 w K) : CallsV Tryd.prog 57 #[.agg #[.string c0, .bool c1, .bool c2]] w K :=
  fnW_calls ok Tryd.func57 (an := (.named .auto)) (args := [.agg #[.string c0, .bool c1, .bool c2]]) (by rw [← code_field_9.eq]; exact h)
noncomputable def code_runs.W : Int → Int → Int → Option Addr → Nat → Nat → Option Addr → Nat → Nat → Option Addr → Nat → Nat → Option Addr → Nat → Nat → Option Addr → Nat → Nat → Option Addr → Nat →
 Nat → Int → World → (Value → World → Prop) → Prop := fun (p0 p1 p2 : Int) (p3_A : Option Go.Addr) (p3_n p3_c : Nat) (p4_A : Option Go.Addr) (p4_n p4_c : Nat) (p5_A : Option Go.Addr) (p5_n p5_c : Nat)
 (p6_A : Option Go.Addr) (p6_n p6_c : Nat) (p7_A : Option Go.Addr) (p7_n p7_c : Nat) (p8_A : Option Go.Addr) (p8_n p8_c : Nat) (atx : Int) (w : Go.World) (K : Go.Value → Go.World → Prop) => ∀ (g : Nat)
 (w' : Go.World), Go.Sx.Fresh w g w' [Go.Value.int Go.IntKind.i64 p0, Go.Value.int Go.IntKind.i64 p1, Go.Value.int Go.IntKind.i64 p2, Go.Value.slice p3_A p3_n p3_c, Go.Value.slice p4_A p4_n p4_c,
 Go.Value.slice p5_A p5_n p5_c, Go.Value.slice p6_A p6_n p6_c, Go.Value.slice p7_A p7_n p7_c, Go.Value.slice p8_A p8_n p8_c] (29 : Nat) → ∃ (x : Option Go.Addr), ∃ (x_1 : Nat), ∃ (x_2 : Nat),
 Go.World.cell? w' (Go.Addr.add (Go.Addr.mk g (0 : Nat) Option.none) (8 : Nat)) = Option.some (Go.Value.slice x x_1 x_2) ∧ ∃ (ad : Go.Addr), x = Option.some ad ∧ ((0 : Int) ≤ atx ∧ atx < (↑x_1 : Int)) ∧
 ∃ (x : Int), Go.World.cell? w' (Go.Addr.add (Go.Addr.add ad (Int.toNat atx * (5 : Nat))) (0 : Nat)) = Option.some (Go.Value.int Go.IntKind.u8 x) ∧ ∃ (x_3 : Int), Go.World.cell? w' (Go.Addr.add
 (Go.Addr.add ad (Int.toNat atx * (5 : Nat))) (1 : Nat)) = Option.some (Go.Value.int Go.IntKind.i64 x_3) ∧ ∃ (x_4 : Int), Go.World.cell? w' (Go.Addr.add (Go.Addr.add ad (Int.toNat atx * (5 : Nat))) (2 :
 Nat)) = Option.some (Go.Value.int Go.IntKind.i64 x_4) ∧ ∃ (x_5 : Int), Go.World.cell? w' (Go.Addr.add (Go.Addr.add ad (Int.toNat atx * (5 : Nat))) (3 : Nat)) = Option.some (Go.Value.int Go.IntKind.i64
 x_5) ∧ ∃ (x_6 : Int), Go.World.cell? w' (Go.Addr.add (Go.Addr.add ad (Int.toNat atx * (5 : Nat))) (4 : Nat)) = Option.some (Go.Value.int Go.IntKind.i64 x_6) ∧ ∀ (g_1 : Nat) (w'_1 : Go.World),
 Go.Sx.Fresh w' g_1 w'_1 [Go.Value.int Go.IntKind.u8 (0 : Int), Go.Value.int Go.IntKind.i64 (0 : Int), Go.Value.int Go.IntKind.i64 (0 : Int), Go.Value.int Go.IntKind.i64 (0 : Int), Go.Value.int
 Go.IntKind.i64 (0 : Int)] (38 : Nat) → Go.Sx.stOK (Go.Addr.mk g_1 (0 : Nat) Option.none) (0 : Nat) [Go.Value.int Go.IntKind.u8 x, Go.Value.int Go.IntKind.i64 x_3, Go.Value.int Go.IntKind.i64 x_4,
 Go.Value.int Go.IntKind.i64 x_5, Go.Value.int Go.IntKind.i64 x_6] w'_1 ∧ ∀ (w' : Go.World), w' = Go.Sx.setAll (Go.Addr.mk g_1 (0 : Nat) Option.none) (0 : Nat) [Go.Value.int Go.IntKind.u8 x,
 Go.Value.int Go.IntKind.i64 x_3, Go.Value.int Go.IntKind.i64 x_4, Go.Value.int Go.IntKind.i64 x_5, Go.Value.int Go.IntKind.i64 x_6] w'_1 → ∃ (x : Int), Go.World.cell? w' (Go.Addr.add (Go.Addr.mk g_1 (0
 : Nat) Option.none) (0 : Nat)) = Option.some (Go.Value.int Go.IntKind.u8 x) ∧ bif Decidable.decide (x = (8 : Int)) then ∃ (x : Int), Go.World.cell? w' (Go.Addr.add (Go.Addr.mk g_1 (0 : Nat)
 Option.none) (4 : Nat)) = Option.some (Go.Value.int Go.IntKind.i64 x) ∧ Go.Sx.CallsV Go.Proofs.Tryd.prog (60 : Nat) #[Go.Value.int Go.IntKind.i64 x] w' fun (v : Go.Value) (w' : Go.World) => ∃ (x :
 ByteArray), ∃ (x_7 : Bool), v = Go.Value.tuple #[Go.Value.string x, Go.Value.bool x_7] ∧ ∃ (x_8 : Int), Go.World.cell? w' (Go.Addr.add (Go.Addr.mk g_1 (0 : Nat) Option.none) (3 : Nat)) = Option.some
 (Go.Value.int Go.IntKind.i64 x_8) ∧ bif Decidable.decide (x_8 ≤ (100 : Int)) then ∃ (x_9 : Int), Go.World.cell? w' (Go.Addr.add (Go.Addr.mk g_1 (0 : Nat) Option.none) (2 : Nat)) = Option.some
 (Go.Value.int Go.IntKind.i64 x_9) ∧ ∃ (x_10 : Int), Go.World.cell? w' (Go.Addr.add (Go.Addr.mk g_1 (0 : Nat) Option.none) (3 : Nat)) = Option.some (Go.Value.int Go.IntKind.i64 x_10) ∧ Go.Sx.CallsV
 Go.Proofs.Tryd.prog (59 : Nat) #[Go.Value.int Go.IntKind.i64 x_9, Go.Value.int Go.IntKind.i64 x_10, Go.Value.pointer (Option.some (Go.Addr.mk g (0 : Nat) Option.none))] w' fun (v : Go.Value) (w' :
 Go.World) => ∃ (x_11 : Bool), v = Go.Value.bool x_11 ∧ bif x_11 then ∃ (x_12 : Int), Go.World.cell? w' (Go.Addr.add (Go.Addr.mk g_1 (0 : Nat) Option.none) (3 : Nat)) = Option.some (Go.Value.int
 Go.IntKind.i64 x_12) ∧ Go.Sx.CallsV Go.Proofs.Tryd.prog (61 : Nat) #[Go.Value.string x, Go.Value.int Go.IntKind.i64 x_12] w' fun (v : Go.Value) (w' : Go.World) => ∃ (x : Bool), v = Go.Value.bool x ∧ K
 (Go.Value.bool x) w' else K (Go.Value.bool Bool.false) w' else K (Go.Value.bool Bool.false) w' else bif Decidable.decide (x = (12 : Int)) then ∃ (x : Int), Go.World.cell? w' (Go.Addr.add (Go.Addr.mk
 g_1 (0 : Nat) Option.none) (2 : Nat)) = Option.some (Go.Value.int Go.IntKind.i64 x) ∧ ∃ (x_7 : Int), Go.World.cell? w' (Go.Addr.add (Go.Addr.mk g_1 (0 : Nat) Option.none) (4 : Nat)) = Option.some
 (Go.Value.int Go.IntKind.i64 x_7) ∧ Go.Sx.CallsV Go.Proofs.Tryd.prog (59 : Nat) #[Go.Value.int Go.IntKind.i64 x, Go.Value.int Go.IntKind.i64 x_7, Go.Value.pointer (Option.some (Go.Addr.mk g (0 : Nat)
 Option.none))] w' fun (v : Go.Value) (w' : Go.World) => ∃ (x : Bool), v = Go.Value.bool x ∧ bif x then ∃ (x : Int), Go.World.cell? w' (Go.Addr.add (Go.Addr.mk g_1 (0 : Nat) Option.none) (3 : Nat)) =
 Option.some (Go.Value.int Go.IntKind.i64 x) ∧ ∃ (x_8 : Int), Go.World.cell? w' (Go.Addr.add (Go.Addr.mk g_1 (0 : Nat) Option.none) (4 : Nat)) = Option.some (Go.Value.int Go.IntKind.i64 x_8) ∧
 Go.Sx.CallsV Go.Proofs.Tryd.prog (59 : Nat) #[Go.Value.int Go.IntKind.i64 x, Go.Value.int Go.IntKind.i64 x_8, Go.Value.pointer (Option.some (Go.Addr.mk g (0 : Nat) Option.none))] w' fun (v : Go.Value)
 (w' : Go.World) => ∃ (x : Bool), v = Go.Value.bool x ∧ K (Go.Value.bool x) w' else K (Go.Value.bool Bool.false) w' else ∃ (J : Bool → Go.World → Prop), (∀ (x_7 : Bool) (w : Go.World), J x_7 w → bif x_7
 then ∃ (x : Int), Go.World.cell? w (Go.Addr.add (Go.Addr.mk g_1 (0 : Nat) Option.none) (3 : Nat)) = Option.some (Go.Value.int Go.IntKind.i64 x) ∧ ∃ (x_8 : Int), Go.World.cell? w (Go.Addr.add
 (Go.Addr.mk g_1 (0 : Nat) Option.none) (4 : Nat)) = Option.some (Go.Value.int Go.IntKind.i64 x_8) ∧ Go.Sx.CallsV Go.Proofs.Tryd.prog (59 : Nat) #[Go.Value.int Go.IntKind.i64 x, Go.Value.int
 Go.IntKind.i64 x_8, Go.Value.pointer (Option.some (Go.Addr.mk g (0 : Nat) Option.none))] w fun (v : Go.Value) (w' : Go.World) => ∃ (x : Bool), v = Go.Value.bool x ∧ K (Go.Value.bool x) w' else bif
 Decidable.decide (x = (18 : Int)) then ∃ (x : Int), Go.World.cell? w (Go.Addr.add (Go.Addr.mk g_1 (0 : Nat) Option.none) (3 : Nat)) = Option.some (Go.Value.int Go.IntKind.i64 x) ∧ K (Go.Value.bool
 (Decidable.decide (x < (30 : Int)))) w else bif Decidable.decide (x = (23 : Int)) then ∃ (S : Go.World → Prop), S (Go.World.drew w) ∧ ∃ (x : Int), (∀ (u : Go.World), S u → Go.World.cell? u (Go.Addr.add
 (Go.Addr.mk g_1 (0 : Nat) Option.none) (3 : Nat)) = Option.some (Go.Value.int Go.IntKind.i64 x)) ∧ ∃ (x_8 : Option Go.Addr), ∃ (x_9 : Nat), ∃ (x_10 : Nat), (∀ (u : Go.World), S u → Go.World.cell? u
 (Go.Addr.add (Go.Addr.mk g (0 : Nat) Option.none) (6 : Nat)) = Option.some (Go.Value.slice x_8 x_9 x_10)) ∧ ∃ (x_11 : Int), (∀ (u : Go.World), S u → Go.World.cell? u (Go.Addr.add (Go.Addr.mk g_1 (0 :
 Nat) Option.none) (2 : Nat)) = Option.some (Go.Value.int Go.IntKind.i64 x_11)) ∧ ∃ (ad : Go.Addr), x_8 = Option.some ad ∧ ((0 : Int) ≤ x_11 ∧ x_11 < (↑x_9 : Int)) ∧ ∃ (x_12 : Int), (∀ (u : Go.World), S
 u → Go.World.cell? u (Go.Addr.add (Go.Addr.add ad (Int.toNat x_11 * (3 : Nat))) (1 : Nat)) = Option.some (Go.Value.int Go.IntKind.i64 x_12)) ∧ K (Go.Value.bool (Decidable.decide (x < x_12)))
 (Go.World.drew w) else bif Decidable.decide (x = (20 : Int)) then ∃ (S : Go.World → Prop), S (Go.World.drew w) ∧ ∃ (x : Int), (∀ (u : Go.World), S u → Go.World.cell? u (Go.Addr.add (Go.Addr.mk g_1 (0 :
 Nat) Option.none) (2 : Nat)) = Option.some (Go.Value.int Go.IntKind.i64 x)) ∧ ∃ (x_8 : Option Go.Addr), ∃ (x_9 : Nat), ∃ (x_10 : Nat), (∀ (u : Go.World), S u → Go.World.cell? u (Go.Addr.add (Go.Addr.mk
 g (0 : Nat) Option.none) (6 : Nat)) = Option.some (Go.Value.slice x_8 x_9 x_10)) ∧ ∃ (x_11 : Int), (∀ (u : Go.World), S u → Go.World.cell? u (Go.Addr.add (Go.Addr.mk g_1 (0 : Nat) Option.none) (1 :
 Nat)) = Option.some (Go.Value.int Go.IntKind.i64 x_11)) ∧ ∃ (ad : Go.Addr), x_8 = Option.some ad ∧ ((0 : Int) ≤ x_11 ∧ x_11 < (↑x_9 : Int)) ∧ ∃ (x_12 : Option Go.Addr), ∃ (x_13 : Nat), ∃ (x_14 : Nat),
 (∀ (u : Go.World), S u → Go.World.cell? u (Go.Addr.add (Go.Addr.add ad (Int.toNat x_11 * (3 : Nat))) (0 : Nat)) = Option.some (Go.Value.slice x_12 x_13 x_14)) ∧ Go.Sx.CallsV Go.Proofs.Tryd.prog (59 :
 Nat) #[Go.Value.int Go.IntKind.i64 x, Go.Value.int Go.IntKind.i64 (↑x_13 : Int), Go.Value.pointer (Option.some (Go.Addr.mk g (0 : Nat) Option.none))] (Go.World.drew w) fun (v : Go.Value) (w' :
 Go.World) => ∃ (x : Bool), v = Go.Value.bool x ∧ S w' ∧ bif x then ∃ (S_1 : Go.World → Prop), S_1 w' ∧ ∃ (x : Int), (∀ (u : Go.World), S_1 u → Go.World.cell? u (Go.Addr.add (Go.Addr.mk g_1 (0 : Nat)
 Option.none) (3 : Nat)) = Option.some (Go.Value.int Go.IntKind.i64 x)) ∧ ∃ (x_15 : Option Go.Addr), ∃ (x_16 : Nat), ∃ (x_17 : Nat), (∀ (u : Go.World), S_1 u → Go.World.cell? u (Go.Addr.add (Go.Addr.mk
 g (0 : Nat) Option.none) (6 : Nat)) = Option.some (Go.Value.slice x_15 x_16 x_17)) ∧ ∃ (x_18 : Int), (∀ (u : Go.World), S_1 u → Go.World.cell? u (Go.Addr.add (Go.Addr.mk g_1 (0 : Nat) Option.none) (1 :
 Nat)) = Option.some (Go.Value.int Go.IntKind.i64 x_18)) ∧ ∃ (ad : Go.Addr), x_15 = Option.some ad ∧ ((0 : Int) ≤ x_18 ∧ x_18 < (↑x_16 : Int)) ∧ ∃ (x_19 : Int), (∀ (u : Go.World), S_1 u → Go.World.cell?
 u (Go.Addr.add (Go.Addr.add ad (Int.toNat x_18 * (3 : Nat))) (1 : Nat)) = Option.some (Go.Value.int Go.IntKind.i64 x_19)) ∧ Go.Sx.CallsV Go.Proofs.Tryd.prog (59 : Nat) #[Go.Value.int Go.IntKind.i64 x,
 Go.Value.int Go.IntKind.i64 x_19, Go.Value.pointer (Option.some (Go.Addr.mk g (0 : Nat) Option.none))] w' fun (v : Go.Value) (w' : Go.World) => ∃ (x : Bool), v = Go.Value.bool x ∧ S_1 w' ∧ S w' ∧ K
 (Go.Value.bool x) w' else K (Go.Value.bool Bool.false) w' else bif Decidable.decide (x = (27 : Int)) then ∃ (x : Int), Go.World.cell? w (Go.Addr.add (Go.Addr.mk g_1 (0 : Nat) Option.none) (1 : Nat)) =
 Option.some (Go.Value.int Go.IntKind.i64 x) ∧ ∃ (x_8 : Option Go.Addr), ∃ (x_9 : Nat), ∃ (x_10 : Nat), Go.World.cell? w (Go.Addr.add (Go.Addr.mk g (0 : Nat) Option.none) (3 : Nat)) = Option.some
 (Go.Value.slice x_8 x_9 x_10) ∧ Go.Sx.CallsV Go.Proofs.Tryd.prog (59 : Nat) #[Go.Value.int Go.IntKind.i64 x, Go.Value.int Go.IntKind.i64 (↑x_9 : Int), Go.Value.pointer (Option.some (Go.Addr.mk g (0 :
 Nat) Option.none))] w fun (v : Go.Value) (w' : Go.World) => ∃ (x : Bool), v = Go.Value.bool x ∧ K (Go.Value.bool x) w' else ∃ (J : Bool → Go.World → Prop), (∀ (x : Bool) (w : Go.World), J x w → bif x
 then bif Decidable.decide (atx = (0 : Int)) then ∃ (x : Option Go.Addr), ∃ (x_8 : Nat), ∃ (x_9 : Nat), Go.World.cell? w (Go.Addr.add (Go.Addr.mk g (0 : Nat) Option.none) (8 : Nat)) = Option.some
 (Go.Value.slice x x_8 x_9) ∧ K (Go.Value.bool (Decidable.decide ((↑x_8 : Int) = (2 : Int)))) w else K (Go.Value.bool Bool.false) w else K (Go.Value.bool Bool.true) w) ∧ bif Decidable.decide (x = (31 :
 Int)) then J (Decidable.decide (x = (31 : Int))) w else bif Decidable.decide (x = (32 : Int)) then J (Decidable.decide (x = (32 : Int))) w else bif Decidable.decide (x = (33 : Int)) then J
 (Decidable.decide (x = (33 : Int))) w else J (Decidable.decide (x = (34 : Int))) w) ∧ bif Decidable.decide (x = (14 : Int)) then J (Decidable.decide (x = (14 : Int))) w' else J (Decidable.decide (x =
 (16 : Int))) w'
theorem code_runs.eq (p0 : Int) (p1 : Int) (p2 : Int) (p3_A : Option Addr) (p3_n : Nat) (p3_c : Nat) (p4_A : Option Addr) (p4_n : Nat) (p4_c : Nat) (p5_A : Option Addr) (p5_n : Nat) (p5_c : Nat) (p6_A : Option Addr) (p6_n : Nat) (p6_c : Nat) (p7_A : Option Addr) (p7_n : Nat) (p7_c : Nat) (p8_A : Option Addr) (p8_n : Nat) (p8_c : Nat) (atx : Int) (w : World) (K : Value → World → Prop) : code_runs.W p0 p1 p2 p3_A p3_n p3_c p4_A p4_n p4_c p5_A p5_n p5_c p6_A p6_n p6_c p7_A p7_n p7_c p8_A p8_n p8_c atx w K = fnW Tryd.prog Tryd.f21 (.named (.seq .auto (.seq .auto (.seq .auto (.seq (.seq .auto (.block (.seq .auto (.cond .auto (.seq .auto (.cond .auto (.join [(58, .one .bool)] .auto (.cond .auto (.seq .auto (.cond .auto (.seq .auto (.cond .auto (.seq .auto (.cond .auto (.seq .auto (.cond .auto (.join [(120, .one .bool)] .auto .auto))))))))))))))))) .auto))))) [.agg #[.int .i64 p0, .int .i64 p1, .int .i64 p2, .slice p3_A p3_n p3_c, .slice p4_A p4_n p4_c, .slice p5_A p5_n p5_c, .slice p6_A p6_n p6_c, .slice p7_A p7_n p7_c, .slice p8_A p8_n p8_c], .int .i64 atx] w K := by kernel_rfl
theorem code_runs.calls (ok : Okay Tryd.prog) {p0 : Int} {p1 : Int} {p2 : Int} {p3_A : Option Addr} {p3_n : Nat} {p3_c : Nat} {p4_A : Option Addr} {p4_n : Nat} {p4_c : Nat} {p5_A : Option Addr} {p5_n : Nat} {p5_c : Nat} {p6_A : Option Addr} {p6_n : Nat} {p6_c : Nat} {p7_A : Option Addr} {p7_n : Nat} {p7_c : Nat} {p8_A : Option Addr} {p8_n : Nat} {p8_c : Nat} {atx : Int} {w : World} {K : Value → World → Prop} (h : code_runs.W p0 p1 p2 p3_A p3_n p3_c p4_A p4_n p4_c p5_A p5_n p5_c p6_A p6_n p6_c p7_A p7_n p7_c p8_A p8_n p8_c atx w K) : CallsV Tryd.prog 21 #[.agg #[.int .i64 p0, .int .i64 p1, .int .i64 p2, .slice p3_A p3_n p3_c, .slice p4_A p4_n p4_c, .slice p5_A p5_n p5_c, .slice p6_A p6_n p6_c, .slice p7_A p7_n p7_c, .slice p8_A p8_n p8_c], .int .i64 atx] w K :=
  fnW_calls ok Tryd.func21 (an := (.named (.seq .auto (.seq .auto (.seq .auto (.seq (.seq .auto (.block (.seq .auto (.cond .auto (.seq .auto (.cond .auto (.join [(58, .one .bool)] .auto (.cond .auto (.seq .auto (.cond .auto (.seq .auto (.cond .auto (.seq .auto (.cond .auto (.seq .auto (.cond .auto (.join [(120, .one .bool)] .auto .auto))))))))))))))))) .auto)))))) (args := [.agg #[.int .i64 p0, .int .i64 p1, .int .i64 p2, .slice p3_A p3_n p3_c, .slice p4_A p4_n p4_c, .slice p5_A p5_n p5_c, .slice p6_A p6_n p6_c, .slice p7_A p7_n p7_c, .slice p8_A p8_n p8_c], .int .i64 atx]) (by rw [← code_runs.eq]; exact h)
noncomputable def code_runs_1.W : Int → Int → Addr → World → (Value → World → Prop) → Prop := fun (fromx many : Int) (a2 : Go.Addr) (w : Go.World) (K : Go.Value → Go.World → Prop) => ∃ (x : Int),
 Go.World.cell? w (Go.Addr.add a2 (1 : Nat)) = Option.some (Go.Value.int Go.IntKind.i64 x) ∧ K (Go.Value.bool (Decidable.decide (many ≤ Go.IntKind.wrap Go.IntKind.i64 (x - fromx)))) w
theorem code_runs_1.eq (fromx : Int) (many : Int) (a2 : Addr) (w : World) (K : Value → World → Prop) : code_runs_1.W fromx many a2 w K = fnW Tryd.prog Tryd.f59 (.named .auto) [.int .i64 fromx, .int .i64 many, .pointer (some a2)] w K := by kernel_rfl
theorem code_runs_1.calls (ok : Okay Tryd.prog) {fromx : Int} {many : Int} {a2 : Addr} {w : World} {K : Value → World → Prop} (h : code_runs_1.W fromx many a2 w K) : CallsV Tryd.prog 59 #[.int .i64 fromx, .int .i64 many, .pointer (some a2)] w K :=
  fnW_calls ok Tryd.func59 (an := (.named .auto)) (args := [.int .i64 fromx, .int .i64 many, .pointer (some a2)]) (by rw [← code_runs_1.eq]; exact h)
noncomputable def code_Func.W : Int → World → (Value → World → Prop) → Prop := fun (d : Int) (w : Go.World) (K : Go.Value → Go.World → Prop) => Go.Sx.CallsV Go.Proofs.Tryd.prog (26 : Nat)
 #[Go.Value.string (ByteArray.mk #[(108 : UInt8), (101 : UInt8), (110 : UInt8), (103 : UInt8), (116 : UInt8), (104 : UInt8), (32 : UInt8), (117 : UInt8), (112 : UInt8), (112 : UInt8), (101 : UInt8),
 (114 : UInt8), (32 : UInt8), (108 : UInt8), (111 : UInt8), (119 : UInt8), (101 : UInt8), (114 : UInt8), (32 : UInt8), (97 : UInt8), (98 : UInt8), (115 : UInt8), (32 : UInt8), (116 : UInt8), (121 :
 UInt8), (112 : UInt8), (101 : UInt8), (111 : UInt8), (102 : UInt8), (32 : UInt8), (104 : UInt8), (101 : UInt8), (120 : UInt8), (32 : UInt8), (105 : UInt8), (102 : UInt8), (110 : UInt8), (117 : UInt8),
 (108 : UInt8), (108 : UInt8), (32 : UInt8), (105 : UInt8), (110 : UInt8), (115 : UInt8), (116 : UInt8), (114 : UInt8), (32 : UInt8), (115 : UInt8), (117 : UInt8), (98 : UInt8), (115 : UInt8), (116 :
 UInt8), (114 : UInt8), (32 : UInt8), (99 : UInt8), (111 : UInt8), (97 : UInt8), (108 : UInt8), (101 : UInt8), (115 : UInt8), (99 : UInt8), (101 : UInt8)]), Go.Value.int Go.IntKind.i64 d] w fun (v :
 Go.Value) (w' : Go.World) => ∃ (x : ByteArray), ∃ (x_1 : Bool), v = Go.Value.tuple #[Go.Value.string x, Go.Value.bool x_1] ∧ K (Go.Value.tuple #[Go.Value.string x, Go.Value.bool x_1]) w'
theorem code_Func.eq (d : Int) (w : World) (K : Value → World → Prop) : code_Func.W d w K = fnW Tryd.prog Tryd.f60 (.named .auto) [.int .i64 d] w K := by kernel_rfl
theorem code_Func.calls (ok : Okay Tryd.prog) {d : Int} {w : World} {K : Value → World → Prop} (h : code_Func.W d w K) : CallsV Tryd.prog 60 #[.int .i64 d] w K :=
  fnW_calls ok Tryd.func60 (an := (.named .auto)) (args := [.int .i64 d]) (by rw [← code_Func.eq]; exact h)
noncomputable def code_named.W : ByteArray → Int → World → (Value → World → Prop) → Prop := fun (words : ByteArray) (d : Int) (w : Go.World) (K : Go.Value → Go.World → Prop) => Go.Sx.CallsV
 Go.Proofs.Tryd.prog (12 : Nat) #[Go.Value.string words] w fun (v : Go.Value) (w' : Go.World) => ∃ (x : Option Go.Addr), ∃ (x_1 : Nat), ∃ (x_2 : Nat), v = Go.Value.slice x x_1 x_2 ∧ bif Decidable.decide
 (d < (0 : Int)) then K (Go.Value.tuple #[Go.Value.string (ByteArray.mk #[]), Go.Value.bool Bool.false]) w' else bif Decidable.decide ((↑x_1 : Int) ≤ d) then K (Go.Value.tuple #[Go.Value.string
 (ByteArray.mk #[]), Go.Value.bool Bool.false]) w' else ∃ (ad : Go.Addr), x = Option.some ad ∧ ((0 : Int) ≤ d ∧ d < (↑x_1 : Int)) ∧ ∃ (x : ByteArray), Go.World.cell? w' (Go.Addr.add ad (Int.toNat d * (1
 : Nat))) = Option.some (Go.Value.string x) ∧ K (Go.Value.tuple #[Go.Value.string x, Go.Value.bool Bool.true]) w'
theorem code_named.eq (words : ByteArray) (d : Int) (w : World) (K : Value → World → Prop) : code_named.W words d w K = fnW Tryd.prog Tryd.f26 (.named .auto) [.string words, .int .i64 d] w K := by kernel_rfl
theorem code_named.calls (ok : Okay Tryd.prog) {words : ByteArray} {d : Int} {w : World} {K : Value → World → Prop} (h : code_named.W words d w K) : CallsV Tryd.prog 26 #[.string words, .int .i64 d] w K :=
  fnW_calls ok Tryd.func26 (an := (.named .auto)) (args := [.string words, .int .i64 d]) (by rw [← code_named.eq]; exact h)
noncomputable def value_Known.W : ByteArray → Int → World → (Value → World → Prop) → Prop := fun (name : ByteArray) (args : Int) (w : Go.World) (K : Go.Value → Go.World → Prop) => ∃ (J : Bool →
 Go.World → Prop), (∀ (x : Bool) (w : Go.World), J x w → bif x then K (Go.Value.bool (Decidable.decide (args = (1 : Int)))) w else ∃ (J : Bool → Go.World → Prop), (∀ (x : Bool) (w : Go.World), J x w →
 bif x then K (Go.Value.bool (Decidable.decide (args = (2 : Int)))) w else bif ByteArray.toList name == ByteArray.toList (ByteArray.mk #[(115 : UInt8), (117 : UInt8), (98 : UInt8), (115 : UInt8), (116 :
 UInt8), (114 : UInt8)]) then bif Decidable.decide (args = (2 : Int)) then K (Go.Value.bool Bool.true) w else K (Go.Value.bool (Decidable.decide (args = (3 : Int)))) w else bif ByteArray.toList name ==
 ByteArray.toList (ByteArray.mk #[(99 : UInt8), (111 : UInt8), (97 : UInt8), (108 : UInt8), (101 : UInt8), (115 : UInt8), (99 : UInt8), (101 : UInt8)]) then bif Decidable.decide ((2 : Int) ≤ args) then
 K (Go.Value.bool (Decidable.decide (args ≤ (100 : Int)))) w else K (Go.Value.bool Bool.false) w else K (Go.Value.bool Bool.false) w) ∧ bif ByteArray.toList name == ByteArray.toList (ByteArray.mk #[(105
 : UInt8), (102 : UInt8), (110 : UInt8), (117 : UInt8), (108 : UInt8), (108 : UInt8)]) then J (ByteArray.toList name == ByteArray.toList (ByteArray.mk #[(105 : UInt8), (102 : UInt8), (110 : UInt8), (117
 : UInt8), (108 : UInt8), (108 : UInt8)])) w else J (ByteArray.toList name == ByteArray.toList (ByteArray.mk #[(105 : UInt8), (110 : UInt8), (115 : UInt8), (116 : UInt8), (114 : UInt8)])) w) ∧ bif
 ByteArray.toList name == ByteArray.toList (ByteArray.mk #[(108 : UInt8), (101 : UInt8), (110 : UInt8), (103 : UInt8), (116 : UInt8), (104 : UInt8)]) then J (ByteArray.toList name == ByteArray.toList
 (ByteArray.mk #[(108 : UInt8), (101 : UInt8), (110 : UInt8), (103 : UInt8), (116 : UInt8), (104 : UInt8)])) w else bif ByteArray.toList name == ByteArray.toList (ByteArray.mk #[(117 : UInt8), (112 :
 UInt8), (112 : UInt8), (101 : UInt8), (114 : UInt8)]) then J (ByteArray.toList name == ByteArray.toList (ByteArray.mk #[(117 : UInt8), (112 : UInt8), (112 : UInt8), (101 : UInt8), (114 : UInt8)])) w
 else bif ByteArray.toList name == ByteArray.toList (ByteArray.mk #[(108 : UInt8), (111 : UInt8), (119 : UInt8), (101 : UInt8), (114 : UInt8)]) then J (ByteArray.toList name == ByteArray.toList
 (ByteArray.mk #[(108 : UInt8), (111 : UInt8), (119 : UInt8), (101 : UInt8), (114 : UInt8)])) w else bif ByteArray.toList name == ByteArray.toList (ByteArray.mk #[(97 : UInt8), (98 : UInt8), (115 :
 UInt8)]) then J (ByteArray.toList name == ByteArray.toList (ByteArray.mk #[(97 : UInt8), (98 : UInt8), (115 : UInt8)])) w else bif ByteArray.toList name == ByteArray.toList (ByteArray.mk #[(116 :
 UInt8), (121 : UInt8), (112 : UInt8), (101 : UInt8), (111 : UInt8), (102 : UInt8)]) then J (ByteArray.toList name == ByteArray.toList (ByteArray.mk #[(116 : UInt8), (121 : UInt8), (112 : UInt8), (101 :
 UInt8), (111 : UInt8), (102 : UInt8)])) w else J (ByteArray.toList name == ByteArray.toList (ByteArray.mk #[(104 : UInt8), (101 : UInt8), (120 : UInt8)])) w
theorem value_Known.eq (name : ByteArray) (args : Int) (w : World) (K : Value → World → Prop) : value_Known.W name args w K = fnW Tryd.prog Tryd.f61 (.named (.seq .auto (.seq (.seq .auto (.block (.join [(6, .one .bool)] .auto (.cond .auto (.join [(15, .one .bool)] .auto .auto))))) .auto))) [.string name, .int .i64 args] w K := by kernel_rfl
theorem value_Known.calls (ok : Okay Tryd.prog) {name : ByteArray} {args : Int} {w : World} {K : Value → World → Prop} (h : value_Known.W name args w K) : CallsV Tryd.prog 61 #[.string name, .int .i64 args] w K :=
  fnW_calls ok Tryd.func61 (an := (.named (.seq .auto (.seq (.seq .auto (.block (.join [(6, .one .bool)] .auto (.cond .auto (.join [(15, .one .bool)] .auto .auto))))) .auto)))) (args := [.string name, .int .i64 args]) (by rw [← value_Known.eq]; exact h)
noncomputable def value_Right.W : Int → Int → ByteArray → World → (Value → World → Prop) → Prop := fun (v0 v1 : Int) (v2 : ByteArray) (w : Go.World) (K : Go.Value → Go.World → Prop) => ∀ (g : Nat) (w'
 : Go.World), Go.Sx.Fresh w g w' [Go.Value.int Go.IntKind.u8 v0, Go.Value.int Go.IntKind.i64 v1, Go.Value.string v2] (51 : Nat) → ∃ (x : Int), Go.World.cell? w' (Go.Addr.add (Go.Addr.mk g (0 : Nat)
 Option.none) (0 : Nat)) = Option.some (Go.Value.int Go.IntKind.u8 x) ∧ bif Decidable.decide (x = (0 : Int)) then ∃ (x : Int), Go.World.cell? w' (Go.Addr.add (Go.Addr.mk g (0 : Nat) Option.none) (1 :
 Nat)) = Option.some (Go.Value.int Go.IntKind.i64 x) ∧ bif Decidable.decide (x = (0 : Int)) then ∃ (x : ByteArray), Go.World.cell? w' (Go.Addr.add (Go.Addr.mk g (0 : Nat) Option.none) (2 : Nat)) =
 Option.some (Go.Value.string x) ∧ K (Go.Value.bool (ByteArray.toList x == ByteArray.toList (ByteArray.mk #[]))) w' else K (Go.Value.bool Bool.false) w' else bif Decidable.decide (x = (1 : Int)) then ∃
 (x : ByteArray), Go.World.cell? w' (Go.Addr.add (Go.Addr.mk g (0 : Nat) Option.none) (2 : Nat)) = Option.some (Go.Value.string x) ∧ K (Go.Value.bool (ByteArray.toList x == ByteArray.toList
 (ByteArray.mk #[]))) w' else bif Decidable.decide (x = (2 : Int)) then bif Decidable.decide (x = (2 : Int)) then ∃ (x : Int), Go.World.cell? w' (Go.Addr.add (Go.Addr.mk g (0 : Nat) Option.none) (1 :
 Nat)) = Option.some (Go.Value.int Go.IntKind.i64 x) ∧ bif Decidable.decide (x = (0 : Int)) then ∃ (x : ByteArray), Go.World.cell? w' (Go.Addr.add (Go.Addr.mk g (0 : Nat) Option.none) (2 : Nat)) =
 Option.some (Go.Value.string x) ∧ K (Go.Value.bool (Decidable.decide ((↑(ByteArray.size x) : Int) ≤ (65536 : Int)))) w' else K (Go.Value.bool Bool.false) w' else K (Go.Value.bool Bool.false) w' else
 bif Decidable.decide (x = (3 : Int)) then ∃ (x : Int), Go.World.cell? w' (Go.Addr.add (Go.Addr.mk g (0 : Nat) Option.none) (1 : Nat)) = Option.some (Go.Value.int Go.IntKind.i64 x) ∧ bif
 Decidable.decide (x = (0 : Int)) then ∃ (x : ByteArray), Go.World.cell? w' (Go.Addr.add (Go.Addr.mk g (0 : Nat) Option.none) (2 : Nat)) = Option.some (Go.Value.string x) ∧ K (Go.Value.bool
 (Decidable.decide ((↑(ByteArray.size x) : Int) ≤ (65536 : Int)))) w' else K (Go.Value.bool Bool.false) w' else K (Go.Value.bool Bool.false) w'
theorem value_Right.eq (v0 : Int) (v1 : Int) (v2 : ByteArray) (w : World) (K : Value → World → Prop) : value_Right.W v0 v1 v2 w K = fnW Tryd.prog Tryd.f37 (.named .auto) [.agg #[.int .u8 v0, .int .i64 v1, .string v2]] w K := by kernel_rfl
theorem value_Right.calls (ok : Okay Tryd.prog) {v0 : Int} {v1 : Int} {v2 : ByteArray} {w : World} {K : Value → World → Prop} (h : value_Right.W v0 v1 v2 w K) : CallsV Tryd.prog 37 #[.agg #[.int .u8 v0, .int .i64 v1, .string v2]] w K :=
  fnW_calls ok Tryd.func37 (an := (.named .auto)) (args := [.agg #[.int .u8 v0, .int .i64 v1, .string v2]]) (by rw [← value_Right.eq]; exact h)
noncomputable def agg_New.W : ByteArray → Bool → World → (Value → World → Prop) → Prop := fun (name : ByteArray) (distinct : Bool) (w : Go.World) (K : Go.Value → Go.World → Prop) => Go.Sx.CallsV
 Go.Proofs.Tryd.prog (71 : Nat) #[Go.Value.string name] w fun (v : Go.Value) (w' : Go.World) => ∃ (x : Bool), v = Go.Value.bool x ∧ bif !x then K (Go.Value.tuple #[Go.Value.pointer Option.none,
 Go.Value.int Go.IntKind.i64 (21 : Int)]) w' else bif distinct then bif ByteArray.toList name == ByteArray.toList (ByteArray.mk #[(99 : UInt8), (111 : UInt8), (117 : UInt8), (110 : UInt8), (116 :
 UInt8), (42 : UInt8)]) then K (Go.Value.tuple #[Go.Value.pointer Option.none, Go.Value.int Go.IntKind.i64 (2 : Int)]) w' else ∀ (g : Nat) (w'_1 : Go.World), Go.Sx.Fresh w' g w'_1 [Go.Value.string name,
 Go.Value.bool distinct, Go.Value.int Go.IntKind.i64 (0 : Int), Go.Value.int Go.IntKind.u64 (0 : Int), Go.Value.int Go.IntKind.u64 (0 : Int), Go.Value.int Go.IntKind.u8 (0 : Int), Go.Value.int
 Go.IntKind.i64 (0 : Int), Go.Value.string (ByteArray.mk #[]), Go.Value.slice Option.none (0 : Nat) (0 : Nat), Go.Value.map Option.none] (117 : Nat) → Go.Sx.CallsV Go.Proofs.Tryd.prog (72 : Nat)
 #[Go.Value.pointer (Option.some (Go.Addr.mk g (0 : Nat) Option.none))] w'_1 fun (v : Go.Value) (w' : Go.World) => v = Go.Value.tuple #[] ∧ K (Go.Value.tuple #[Go.Value.pointer (Option.some (Go.Addr.mk
 g (0 : Nat) Option.none)), Go.Value.int Go.IntKind.i64 (0 : Int)]) w' else ∀ (g : Nat) (w'_1 : Go.World), Go.Sx.Fresh w' g w'_1 [Go.Value.string name, Go.Value.bool distinct, Go.Value.int
 Go.IntKind.i64 (0 : Int), Go.Value.int Go.IntKind.u64 (0 : Int), Go.Value.int Go.IntKind.u64 (0 : Int), Go.Value.int Go.IntKind.u8 (0 : Int), Go.Value.int Go.IntKind.i64 (0 : Int), Go.Value.string
 (ByteArray.mk #[]), Go.Value.slice Option.none (0 : Nat) (0 : Nat), Go.Value.map Option.none] (117 : Nat) → Go.Sx.CallsV Go.Proofs.Tryd.prog (72 : Nat) #[Go.Value.pointer (Option.some (Go.Addr.mk g (0
 : Nat) Option.none))] w'_1 fun (v : Go.Value) (w' : Go.World) => v = Go.Value.tuple #[] ∧ K (Go.Value.tuple #[Go.Value.pointer (Option.some (Go.Addr.mk g (0 : Nat) Option.none)), Go.Value.int
 Go.IntKind.i64 (0 : Int)]) w'
theorem agg_New.eq (name : ByteArray) (distinct : Bool) (w : World) (K : Value → World → Prop) : agg_New.W name distinct w K = fnW Tryd.prog Tryd.f41 (.named .auto) [.string name, .bool distinct] w K := by kernel_rfl
theorem agg_New.calls (ok : Okay Tryd.prog) {name : ByteArray} {distinct : Bool} {w : World} {K : Value → World → Prop} (h : agg_New.W name distinct w K) : CallsV Tryd.prog 41 #[.string name, .bool distinct] w K :=
  fnW_calls ok Tryd.func41 (an := (.named .auto)) (args := [.string name, .bool distinct]) (by rw [← agg_New.eq]; exact h)
noncomputable def agg_Known.W : ByteArray → World → (Value → World → Prop) → Prop := fun (name : ByteArray) (w : Go.World) (K : Go.Value → Go.World → Prop) => bif ByteArray.toList name ==
 ByteArray.toList (ByteArray.mk #[(99 : UInt8), (111 : UInt8), (117 : UInt8), (110 : UInt8), (116 : UInt8)]) then bif ByteArray.toList name == ByteArray.toList (ByteArray.mk #[(99 : UInt8), (111 :
 UInt8), (117 : UInt8), (110 : UInt8), (116 : UInt8)]) then K (Go.Value.bool Bool.true) w else K (Go.Value.bool Bool.false) w else bif ByteArray.toList name == ByteArray.toList (ByteArray.mk #[(99 :
 UInt8), (111 : UInt8), (117 : UInt8), (110 : UInt8), (116 : UInt8), (42 : UInt8)]) then bif ByteArray.toList name == ByteArray.toList (ByteArray.mk #[(99 : UInt8), (111 : UInt8), (117 : UInt8), (110 :
 UInt8), (116 : UInt8), (42 : UInt8)]) then K (Go.Value.bool Bool.true) w else K (Go.Value.bool Bool.false) w else bif ByteArray.toList name == ByteArray.toList (ByteArray.mk #[(115 : UInt8), (117 :
 UInt8), (109 : UInt8)]) then bif ByteArray.toList name == ByteArray.toList (ByteArray.mk #[(115 : UInt8), (117 : UInt8), (109 : UInt8)]) then K (Go.Value.bool Bool.true) w else K (Go.Value.bool
 Bool.false) w else bif ByteArray.toList name == ByteArray.toList (ByteArray.mk #[(116 : UInt8), (111 : UInt8), (116 : UInt8), (97 : UInt8), (108 : UInt8)]) then bif ByteArray.toList name ==
 ByteArray.toList (ByteArray.mk #[(116 : UInt8), (111 : UInt8), (116 : UInt8), (97 : UInt8), (108 : UInt8)]) then K (Go.Value.bool Bool.true) w else K (Go.Value.bool Bool.false) w else bif
 ByteArray.toList name == ByteArray.toList (ByteArray.mk #[(109 : UInt8), (105 : UInt8), (110 : UInt8)]) then bif ByteArray.toList name == ByteArray.toList (ByteArray.mk #[(109 : UInt8), (105 : UInt8),
 (110 : UInt8)]) then K (Go.Value.bool Bool.true) w else K (Go.Value.bool Bool.false) w else bif ByteArray.toList name == ByteArray.toList (ByteArray.mk #[(109 : UInt8), (97 : UInt8), (120 : UInt8)])
 then bif ByteArray.toList name == ByteArray.toList (ByteArray.mk #[(109 : UInt8), (97 : UInt8), (120 : UInt8)]) then K (Go.Value.bool Bool.true) w else K (Go.Value.bool Bool.false) w else bif
 ByteArray.toList name == ByteArray.toList (ByteArray.mk #[(103 : UInt8), (114 : UInt8), (111 : UInt8), (117 : UInt8), (112 : UInt8), (95 : UInt8), (99 : UInt8), (111 : UInt8), (110 : UInt8), (99 :
 UInt8), (97 : UInt8), (116 : UInt8)]) then K (Go.Value.bool Bool.true) w else K (Go.Value.bool Bool.false) w
theorem agg_Known.eq (name : ByteArray) (w : World) (K : Value → World → Prop) : agg_Known.W name w K = fnW Tryd.prog Tryd.f71 (.named .auto) [.string name] w K := by kernel_rfl
theorem agg_Known.calls (ok : Okay Tryd.prog) {name : ByteArray} {w : World} {K : Value → World → Prop} (h : agg_Known.W name w K) : CallsV Tryd.prog 71 #[.string name] w K :=
  fnW_calls ok Tryd.func71 (an := (.named .auto)) (args := [.string name]) (by rw [← agg_Known.eq]; exact h)
noncomputable def agg_Acc_Reset.W : Option Addr → World → (Value → World → Prop) → Prop := fun (a : Option Go.Addr) (w : Go.World) (K : Go.Value → Go.World → Prop) => bif Option.isNone a then K
 (Go.Value.tuple #[]) w else ∃ (a_1 : Go.Addr), a = Option.some a_1 ∧ ∃ (x : ByteArray), Go.World.cell? w (Go.Addr.add a_1 (0 : Nat)) = Option.some (Go.Value.string x) ∧ bif ByteArray.toList x ==
 ByteArray.toList (ByteArray.mk #[]) then K (Go.Value.tuple #[]) w else ∃ (a_2 : Go.Addr), a = Option.some a_2 ∧ ∃ (S : Go.World → Prop), S (Go.World.drew w) ∧ ∃ (x : ByteArray), (∀ (u : Go.World), S u
 → Go.World.cell? u (Go.Addr.add a_2 (0 : Nat)) = Option.some (Go.Value.string x)) ∧ ∃ (a_3 : Go.Addr), a = Option.some a_3 ∧ ∃ (x_1 : Bool), (∀ (u : Go.World), S u → Go.World.cell? u (Go.Addr.add a_3
 (1 : Nat)) = Option.some (Go.Value.bool x_1)) ∧ ∃ (x_2 : Option Nat), ∃ (w' : Go.World), Go.Sx.RunsTo Go.Proofs.Tryd.prog (Go.Instr.makeMap (115 : Nat) Option.none) (Go.World.drew w) (Go.Value.map x_2)
 w' ∧ S w' ∧ ∃ (a_4 : Go.Addr), a = Option.some a_4 ∧ Go.Sx.stOK a_4 (0 : Nat) [Go.Value.string x, Go.Value.bool x_1, Go.Value.int Go.IntKind.i64 (0 : Int), Go.Value.int Go.IntKind.u64 (0 : Int),
 Go.Value.int Go.IntKind.u64 (0 : Int), Go.Value.int Go.IntKind.u8 (0 : Int), Go.Value.int Go.IntKind.i64 (0 : Int), Go.Value.string (ByteArray.mk #[]), Go.Value.slice Option.none (0 : Nat) (0 : Nat),
 Go.Value.map x_2] w' ∧ ∀ (w'_1 : Go.World), w'_1 = Go.Sx.setAll a_4 (0 : Nat) [Go.Value.string x, Go.Value.bool x_1, Go.Value.int Go.IntKind.i64 (0 : Int), Go.Value.int Go.IntKind.u64 (0 : Int),
 Go.Value.int Go.IntKind.u64 (0 : Int), Go.Value.int Go.IntKind.u8 (0 : Int), Go.Value.int Go.IntKind.i64 (0 : Int), Go.Value.string (ByteArray.mk #[]), Go.Value.slice Option.none (0 : Nat) (0 : Nat),
 Go.Value.map x_2] w' → K (Go.Value.tuple #[]) w'_1
theorem agg_Acc_Reset.eq (a : Option Addr) (w : World) (K : Value → World → Prop) : agg_Acc_Reset.W a w K = fnW Tryd.prog Tryd.f72 (.named .auto) [.pointer a] w K := by kernel_rfl
theorem agg_Acc_Reset.calls (ok : Okay Tryd.prog) {a : Option Addr} {w : World} {K : Value → World → Prop} (h : agg_Acc_Reset.W a w K) : CallsV Tryd.prog 72 #[.pointer a] w K :=
  fnW_calls ok Tryd.func72 (an := (.named .auto)) (args := [.pointer a]) (by rw [← agg_Acc_Reset.eq]; exact h)
end Go.Proofs.YtaifphjenebgoaaDoor
/- Contracts of the library at this program, laid by the kit. -/
namespace Go.Proofs
open Go.Shelf
def Tryd.lays171_ren : Go.Shelf.Ren := ⟨fun | 171 => 22 | 243 => 62 | 246 => 78 | 283 => 87 | 284 => 88 | 285 => 89 | 286 => 90 | 129 => 94 | 317 => 93 | 318 => 95 | 319 => 96 | 320 => 97 | 337 => 98 | 338 => 99 | n => n, fun | 3 => 3 | 9 => 9 | 2 => 2 | 4 => 4 | 171 => 139 | 0 => 0 | 53 => 108 | 37 => 45 | 5 => 5 | 173 => 142 | 212 => 149 | 51 => 103 | 20 => 20 | 213 => 150 | 46 => 137 | 232 => 154 | 233 => 155 | n => n, fun | 17 => 3 | 18 => 4 | 19 => 5 | n => n⟩
theorem Tryd.lays171 : Go.Proofs.Lays.n171 Tryd.prog Tryd.lays171_ren := {
  mixed := by kernel_rfl
  f129 := Tryd.func94.trans (congrArg some (by kernel_rfl))
  f171 := Tryd.func22.trans (congrArg some (by kernel_rfl))
  f243 := Tryd.func62.trans (congrArg some (by kernel_rfl))
  f246 := Tryd.func78.trans (congrArg some (by kernel_rfl))
  f283 := Tryd.func87.trans (congrArg some (by kernel_rfl))
  f284 := Tryd.func88.trans (congrArg some (by kernel_rfl))
  f285 := Tryd.func89.trans (congrArg some (by kernel_rfl))
  f286 := Tryd.func90.trans (congrArg some (by kernel_rfl))
  f317 := Tryd.func93.trans (congrArg some (by kernel_rfl))
  f318 := Tryd.func95.trans (congrArg some (by kernel_rfl))
  f319 := Tryd.func96.trans (congrArg some (by kernel_rfl))
  f320 := Tryd.func97.trans (congrArg some (by kernel_rfl))
  f337 := Tryd.func98.trans (congrArg some (by kernel_rfl))
  f338 := Tryd.func99.trans (congrArg some (by kernel_rfl))
  t0 := Tryd.underlying0
  a0 := Tryd.isAgg0
  z0 := Tryd.sizeOf0
  v0 := Tryd.zeroValue0
  t2 := Tryd.underlying2
  a2 := Tryd.isAgg2
  z2 := Tryd.sizeOf2
  v2 := Tryd.zeroValue2
  t3 := Tryd.underlying3
  a3 := Tryd.isAgg3
  z3 := Tryd.sizeOf3
  v3 := Tryd.zeroValue3
  t4 := Tryd.underlying4
  a4 := Tryd.isAgg4
  z4 := Tryd.sizeOf4
  v4 := Tryd.zeroValue4
  t5 := Tryd.underlying5
  a5 := Tryd.isAgg5
  z5 := Tryd.sizeOf5
  v5 := Tryd.zeroValue5
  t9 := Tryd.underlying9
  a9 := Tryd.isAgg9
  z9 := Tryd.sizeOf9
  v9 := Tryd.zeroValue9
  t20 := Tryd.underlying20
  a20 := Tryd.isAgg20
  z20 := Tryd.sizeOf20
  v20 := Tryd.zeroValue20
  t37 := Tryd.underlying45
  a37 := Tryd.isAgg45
  z37 := Tryd.sizeOf45
  v37 := Tryd.zeroValue45
  t46 := Tryd.underlying137
  a46 := Tryd.isAgg137
  z46 := Tryd.sizeOf137
  v46 := Tryd.zeroValue137
  t51 := Tryd.underlying103
  a51 := Tryd.isAgg103
  z51 := Tryd.sizeOf103
  v51 := Tryd.zeroValue103
  t53 := Tryd.underlying108
  a53 := Tryd.isAgg108
  z53 := Tryd.sizeOf108
  v53 := Tryd.zeroValue108
  t171 := Tryd.underlying139
  a171 := Tryd.isAgg139
  z171 := Tryd.sizeOf139
  v171 := Tryd.zeroValue139
  t173 := Tryd.underlying142
  a173 := Tryd.isAgg142
  z173 := Tryd.sizeOf142
  v173 := Tryd.zeroValue142
  t212 := Tryd.underlying149
  a212 := Tryd.isAgg149
  z212 := Tryd.sizeOf149
  v212 := Tryd.zeroValue149
  t213 := Tryd.underlying150
  a213 := Tryd.isAgg150
  z213 := Tryd.sizeOf150
  t232 := Tryd.underlying154
  a232 := Tryd.isAgg154
  z232 := Tryd.sizeOf154
  v232 := Tryd.zeroValue154
  t233 := Tryd.underlying155
  a233 := Tryd.isAgg155
  z233 := Tryd.sizeOf155
  v233 := Tryd.zeroValue155
  g17 := by kernel_rfl
  g18 := by kernel_rfl
  g19 := by kernel_rfl }
open Go.RowKit Go.Sort Go.Lib in
/-- THE ROAD WITHOUT THE TABLE: 0 <= i < 100: NO PREMISE ON THE WORLD, AND THE WORLD IS AS IT WAS: a row that keeps its argument in that range need list no table ('laid = []'). (LAID: no walk: one application.) -/
theorem Tryd.strconv_Itoa_small (i : Nat) (hi : i < 100) (w : World) :
    Calls Tryd.prog 22 #[.int .i64 i] w fun e w' => e = .returned (.string ⟨(Lib.decDigits i).toArray⟩) ∧ w' = w := Any.strconv_Itoa_small Tryd.lays171 i hi w
def Tryd.lays157_ren : Go.Shelf.Ren := ⟨fun | 157 => 12 | 229 => 23 | 199 => 24 | 261 => 63 | 311 => 79 | 312 => 80 | n => n, fun | 9 => 9 | 31 => 22 | 3 => 3 | 5 => 5 | 4 => 4 | 119 => 63 | 0 => 0 | 40 => 65 | 152 => 100 | 21 => 21 | 154 => 102 | 51 => 103 | 141 => 105 | 196 => 127 | 193 => 124 | 198 => 130 | 49 => 128 | 194 => 125 | 201 => 133 | 226 => 144 | 46 => 137 | 227 => 145 | n => n, fun | 0 => 0 | 6 => 1 | n => n⟩
theorem Tryd.lays157 : Go.Proofs.Lays.n157 Tryd.prog Tryd.lays157_ren := {
  mixed := by kernel_rfl
  f157 := Tryd.func12.trans (congrArg some (by kernel_rfl))
  f199 := Tryd.func24.trans (congrArg some (by kernel_rfl))
  f229 := Tryd.func23.trans (congrArg some (by kernel_rfl))
  f261 := Tryd.func63.trans (congrArg some (by kernel_rfl))
  f311 := Tryd.func79.trans (congrArg some (by kernel_rfl))
  f312 := Tryd.func80.trans (congrArg some (by kernel_rfl))
  t0 := Tryd.underlying0
  a0 := Tryd.isAgg0
  z0 := Tryd.sizeOf0
  v0 := Tryd.zeroValue0
  t3 := Tryd.underlying3
  a3 := Tryd.isAgg3
  z3 := Tryd.sizeOf3
  v3 := Tryd.zeroValue3
  t4 := Tryd.underlying4
  a4 := Tryd.isAgg4
  z4 := Tryd.sizeOf4
  v4 := Tryd.zeroValue4
  t5 := Tryd.underlying5
  a5 := Tryd.isAgg5
  z5 := Tryd.sizeOf5
  v5 := Tryd.zeroValue5
  t9 := Tryd.underlying9
  a9 := Tryd.isAgg9
  z9 := Tryd.sizeOf9
  v9 := Tryd.zeroValue9
  t21 := Tryd.underlying21
  a21 := Tryd.isAgg21
  z21 := Tryd.sizeOf21
  v21 := Tryd.zeroValue21
  t31 := Tryd.underlying22
  a31 := Tryd.isAgg22
  z31 := Tryd.sizeOf22
  v31 := Tryd.zeroValue22
  t40 := Tryd.underlying65
  a40 := Tryd.isAgg65
  z40 := Tryd.sizeOf65
  v40 := Tryd.zeroValue65
  t46 := Tryd.underlying137
  a46 := Tryd.isAgg137
  z46 := Tryd.sizeOf137
  v46 := Tryd.zeroValue137
  t49 := Tryd.underlying128
  a49 := Tryd.isAgg128
  z49 := Tryd.sizeOf128
  v49 := Tryd.zeroValue128
  t51 := Tryd.underlying103
  a51 := Tryd.isAgg103
  z51 := Tryd.sizeOf103
  v51 := Tryd.zeroValue103
  t119 := Tryd.underlying63
  a119 := Tryd.isAgg63
  z119 := Tryd.sizeOf63
  t141 := Tryd.underlying105
  a141 := Tryd.isAgg105
  z141 := Tryd.sizeOf105
  v141 := Tryd.zeroValue105
  t152 := Tryd.underlying100
  a152 := Tryd.isAgg100
  z152 := Tryd.sizeOf100
  v152 := Tryd.zeroValue100
  t154 := Tryd.underlying102
  a154 := Tryd.isAgg102
  z154 := Tryd.sizeOf102
  v154 := Tryd.zeroValue102
  t193 := Tryd.underlying124
  a193 := Tryd.isAgg124
  z193 := Tryd.sizeOf124
  v193 := Tryd.zeroValue124
  t194 := Tryd.underlying125
  a194 := Tryd.isAgg125
  z194 := Tryd.sizeOf125
  v194 := Tryd.zeroValue125
  t196 := Tryd.underlying127
  a196 := Tryd.isAgg127
  z196 := Tryd.sizeOf127
  v196 := Tryd.zeroValue127
  t198 := Tryd.underlying130
  a198 := Tryd.isAgg130
  z198 := Tryd.sizeOf130
  v198 := Tryd.zeroValue130
  t201 := Tryd.underlying133
  a201 := Tryd.isAgg133
  z201 := Tryd.sizeOf133
  v201 := Tryd.zeroValue133
  t226 := Tryd.underlying144
  a226 := Tryd.isAgg144
  z226 := Tryd.sizeOf144
  v226 := Tryd.zeroValue144
  t227 := Tryd.underlying145
  a227 := Tryd.isAgg145
  z227 := Tryd.sizeOf145
  v227 := Tryd.zeroValue145
  g0 := by kernel_rfl
  g6 := by kernel_rfl }
open Go.RowKit Go.Lib in
/-- strings.Fields, the table by 'Lib.TabIs' (as strings.TrimSpace's contract). 'hg': the table's number, by its name: at a dump 'by kernel_rfl'. (LAID: no walk: one application.) -/
theorem Tryd.strings_Fields (s : ByteArray) (w : World) (hs : s.size < 4294967281) (hascii : ∀ (j : Nat) b, s.data.toList[j]? = some b → b.toNat < 128) (htab : Lib.TabIs Tryd.prog w "strings.asciiSpace" .u8 Lib.asciiSpaceTab) :
    Calls Tryd.prog 12 #[.string s] w fun e w' =>
      e = .returned (.slice (some ⟨w.heap.size, 0, none⟩) (Lib.fields s.data.toList).length (Lib.fields s.data.toList).length) ∧ w' = w.alloc (.cells ((Lib.fields s.data.toList).map fun l => Value.string ⟨l.toArray⟩).toArray 9) := Any.strings_Fields Tryd.lays157 (by kernel_rfl) (by kernel_rfl) s w hs hascii htab
end Go.Proofs
/- Memory: what stays, what is owned, what is read; append, make, conversions. -/
set_option linter.unusedVariables false
set_option linter.unusedSimpArgs false
namespace Go.Sx
open Go.RowKit (Below)

/-! ## what stays -/
/-- what was there is as it was, but for the blocks of S -/
structure Fr (S : Nat → Prop) (w w' : World) : Prop where
  os : w'.os = w.os
  tape : w'.tape = w.tape
  output : w'.output = w.output
  size : w.heap.size ≤ w'.heap.size
  block : ∀ k, k < w.heap.size → ¬ S k → w'.heap[k]? = w.heap[k]?
def NoB : Nat → Prop := fun _ => False
/-- all that was there is as it was -/
abbrev Ext (w w' : World) : Prop := Fr NoB w w'
/-- the block of a slice -/
def ownB (A : Option Addr) : Nat → Prop := fun k => ∃ ad, A = some ad ∧ ad.block = k
theorem ownB_none (k : Nat) : ¬ ownB none k := fun ⟨_, h, _⟩ => by cases h
theorem ownB_some (b o : Nat) (s : Option Nat) (k : Nat) : ownB (some ⟨b, o, s⟩) k ↔ b = k := ⟨fun ⟨_, h, e⟩ => by cases h; exact e, fun h => ⟨_, rfl, h⟩⟩

theorem Fr.refl (S : Nat → Prop) (w : World) : Fr S w w := ⟨rfl, rfl, rfl, Nat.le_refl _, fun _ _ _ => rfl⟩
theorem Fr.trans {S S' S'' : Nat → Prop} {a b c : World} (h : Fr S a b) (h' : Fr S' b c) (h1 : ∀ k, k < a.heap.size → S k → S'' k) (h2 : ∀ k, k < a.heap.size → S' k → S'' k) : Fr S'' a c :=
  ⟨h'.os.trans h.os, h'.tape.trans h.tape, h'.output.trans h.output, Nat.le_trans h.size h'.size, fun k hk hn =>
    (h'.block k (Nat.lt_of_lt_of_le hk h.size) (fun hs => hn (h2 k hk hs))).trans (h.block k hk (fun hs => hn (h1 k hk hs)))⟩
theorem Fr.ext {S : Nat → Prop} {a b c : World} (h : Fr S a b) (h' : Fr S b c) : Fr S a c := h.trans h' (fun _ _ h => h) (fun _ _ h => h)
theorem Fr.mono {S S' : Nat → Prop} {a b : World} (h : Fr S a b) (h1 : ∀ k, k < a.heap.size → S k → S' k) : Fr S' a b := ⟨h.os, h.tape, h.output, h.size, fun k hk hn => h.block k hk (fun hs => hn (h1 k hk hs))⟩
theorem Ext.fr {S : Nat → Prop} {a b : World} (h : Ext a b) : Fr S a b := h.mono (fun _ _ h => h.elim)
theorem Fr.drew (S : Nat → Prop) (w : World) : Fr S w w.drew := ⟨rfl, rfl, rfl, Nat.le_refl _, fun _ _ _ => rfl⟩
theorem Fr.alloc (S : Nat → Prop) (w : World) (o : Obj) : Fr S w (w.alloc o) :=
  ⟨rfl, rfl, rfl, by simp [World.alloc, -World.alloc_eq], fun k hk _ => Go.RowKit.Below.heap_alloc w o k hk⟩
theorem Fr.cell {S : Nat → Prop} {w w' : World} (h : Fr S w w') {a : Addr} (ha : ¬ S a.block) {v : Value} (hv : w.cell? a = some v) : w'.cell? a = some v :=
  (World.cell?_of_block (h.block _ (World.block_lt_of_cell? w a hv) ha)).trans hv
theorem Fr.setCell {w : World} (S : Nat → Prop) {a : Addr} (v : Value) (ha : w.heap.size ≤ a.block ∨ S a.block) : Fr S w (w.setCell a v) := by
  refine ⟨rfl, rfl, rfl, by simp [World.setCell], fun k hk hn => ?_⟩
  simp only [World.setCell, Array.getElem?_modify]
  rw [if_neg]
  rintro rfl
  rcases ha with h | h
  · omega
  · exact hn h

/-! ## addresses -/
theorem add_add (a : Addr) (i j : Nat) : (a.add i).add j = a.add (i + j) := by
  unfold Addr.add
  by_cases hi : i = 0
  · subst hi; simp
  · by_cases hj : j = 0
    · subst hj; simp [hi]
    · have hij : i + j ≠ 0 := by omega
      simp [hi, hj, hij, Nat.add_assoc]
theorem add_block (a : Addr) (i : Nat) : (a.add i).block = a.block := by unfold Addr.add; split <;> rfl
theorem add_zero' (a : Addr) : a.add 0 = a := rfl
theorem add_new (b o i : Nat) : (⟨b, o, none⟩ : Addr).add i = ⟨b, o + i, none⟩ := by unfold Addr.add; split <;> simp_all

/-! ## kinds of data -/
/-- from one world with its mutable blocks to a later one -/
structure Step (Ω : Nat → Prop) (w : World) (Ω' : Nat → Prop) (w' : World) : Prop where
  size : w.heap.size ≤ w'.heap.size
  block : ∀ k, k < w.heap.size → ¬ Ω k → w'.heap[k]? = w.heap[k]?
  sub : ∀ k, k < w.heap.size → Ω' k → Ω k
theorem Step.refl (Ω : Nat → Prop) (w : World) : Step Ω w Ω w := ⟨Nat.le_refl _, fun _ _ _ => rfl, fun _ _ h => h⟩
theorem Fr.step {S Ω Ω' : Nat → Prop} {w w' : World} (h : Fr S w w') (h1 : ∀ k, k < w.heap.size → S k → Ω k) (h2 : ∀ k, k < w.heap.size → Ω' k → Ω k) : Step Ω w Ω' w' :=
  ⟨h.size, fun k hk hn => h.block k hk (fun hs => hn (h1 k hk hs)), h2⟩
theorem Ext.step {w w' : World} (h : Ext w w') (Ω : Nat → Prop) : Step Ω w Ω w' := Fr.step h (fun _ _ h => h.elim) (fun _ _ h => h)
theorem Step.cell {Ω Ω' : Nat → Prop} {w w' : World} (h : Step Ω w Ω' w') {a : Addr} (ha : ¬ Ω a.block) {v : Value} (hv : w.cell? a = some v) : w'.cell? a = some v :=
  (World.cell?_of_block (h.block _ (World.block_lt_of_cell? w a hv) ha)).trans hv
theorem Step.out {Ω Ω' : Nat → Prop} {w w' : World} (h : Step Ω w Ω' w') {k : Nat} (hk : k < w.heap.size) (hn : ¬ Ω k) : ¬ Ω' k := fun h' => hn (h.sub k hk h')

structure Kd (α : Type) where
  size : Nat
  rep : (Nat → Prop) → World → α → List Value → Prop
  len : ∀ {Ω w a cs}, rep Ω w a cs → cs.length = size
  keep : ∀ {Ω w a cs Ω' w'}, rep Ω w a cs → Step Ω w Ω' w' → rep Ω' w' a cs

def u8 (b : UInt8) : Value := .int .u8 (b.toNat : Int)
def Kd.u8 : Kd UInt8 := ⟨1, fun _ _ a cs => cs = [Sx.u8 a], fun h => by simp [h], fun h _ => h⟩
def Kd.int (k : IntKind) : Kd Int := ⟨1, fun _ _ a cs => cs = [.int k a], fun h => by simp [h], fun h _ => h⟩
def Kd.str : Kd ByteArray := ⟨1, fun _ _ a cs => cs = [.string a], fun h => by simp [h], fun h _ => h⟩
def Kd.bool : Kd Bool := ⟨1, fun _ _ a cs => cs = [.bool a], fun h => by simp [h], fun h _ => h⟩

/-- A slice's elements, in memory that nobody writes to: none of it in a block of Ω. -/
def Imm {α : Type} (K : Kd α) (Ω : Nat → Prop) (w : World) (A : Option Addr) (l : List α) : Prop :=
  ∀ i a, l[i]? = some a → ∃ ad, A = some ad ∧ ¬ Ω ad.block ∧ ∃ cs, K.rep Ω w a cs ∧ ∀ j v, cs[j]? = some v → w.cell? (ad.add (i * K.size + j)) = some v

theorem Imm.keep {α : Type} {K : Kd α} {Ω Ω' : Nat → Prop} {w w' : World} {A : Option Addr} {l : List α} (hz : 0 < K.size) (h : Imm K Ω w A l) (st : Step Ω w Ω' w') : Imm K Ω' w' A l := by
  intro i a ha
  obtain ⟨ad, hA, hn, cs, hr, hc⟩ := h i a ha
  have hlt : ad.block < w.heap.size := by
    have h0 : 0 < cs.length := by rw [K.len hr]; exact hz
    obtain ⟨v, hv⟩ : ∃ v, cs[0]? = some v := ⟨cs[0], by simp [h0]⟩
    have := World.block_lt_of_cell? w _ (hc 0 v hv)
    rwa [add_block] at this
  exact ⟨ad, hA, st.out hlt hn, cs, K.keep hr st, fun j v hj => st.cell (by rw [add_block]; exact hn) (hc j v hj)⟩
theorem Imm.nil {α : Type} (K : Kd α) (Ω : Nat → Prop) (w : World) (A : Option Addr) : Imm K Ω w A [] := fun i a h => by simp at h
theorem Imm.cut {α : Type} {K : Kd α} {Ω : Nat → Prop} {w : World} {A : Option Addr} {l : List α} (h : Imm K Ω w A l) {lo hi m : Nat} (h1 : hi ≤ m) : Imm K Ω w (cutAt A m lo K.size) ((l.take hi).drop lo) := by
  intro i a ha
  rw [List.getElem?_drop, List.getElem?_take] at ha
  split at ha
  · rename_i hlt
    obtain ⟨ad, hA, hn, cs, hr, hc⟩ := h (lo + i) a ha
    have hne : ¬ m = lo := by omega
    refine ⟨ad.add (lo * K.size), by simp [cutAt, hne, hA], by rw [add_block]; exact hn, cs, hr, fun j v hj => ?_⟩
    rw [add_add, show lo * K.size + (i * K.size + j) = (lo + i) * K.size + j by rw [Nat.add_mul]; omega]
    exact hc j v hj
  · cases ha
theorem Imm.get1 {α : Type} {K : Kd α} {Ω : Nat → Prop} {w : World} {A : Option Addr} {l : List α} (h : Imm K Ω w A l) {i : Nat} (hi : i < l.length) :
    ∃ ad, A = some ad ∧ ∃ cs, K.rep Ω w l[i] cs ∧ ∀ j v, cs[j]? = some v → w.cell? (ad.add (i * K.size + j)) = some v := by
  obtain ⟨ad, hA, _, cs, hr, hc⟩ := h i l[i] (by simp [hi])
  exact ⟨ad, hA, cs, hr, hc⟩

/-- a slice as one cell -/
def Kd.slice {α : Type} (K : Kd α) (hz : 0 < K.size) : Kd (List α) :=
  ⟨1, fun Ω w l cs => ∃ A c, cs = [.slice A l.length c] ∧ l.length ≤ c ∧ Imm K Ω w A l, fun ⟨_, _, h, _⟩ => by simp [h], fun ⟨A, c, h, hc, hi⟩ st => ⟨A, c, h, hc, hi.keep hz st⟩⟩
abbrev KB : Kd UInt8 := Kd.u8
theorem KB_pos : 0 < KB.size := by decide
abbrev KBs : Kd (List UInt8) := Kd.slice KB KB_pos
theorem KBs_pos : 0 < KBs.size := by decide

/-! ## bytes -/
theorem Imm.byte {Ω : Nat → Prop} {w : World} {A : Option Addr} {l : List UInt8} (h : Imm KB Ω w A l) {i : Nat} (hi : i < l.length) :
    ∃ ad, A = some ad ∧ w.cell? (ad.add (i * 1)) = some (.int .u8 (l[i].toNat : Int)) := by
  obtain ⟨ad, hA, cs, hr, hc⟩ := h.get1 hi
  cases hr
  exact ⟨ad, hA, hc 0 _ rfl⟩

/-! ## owned memory -/
/-- A slice of n elements of sz cells, alone in a block whose cells nobody else reads or writes: nil, or from the block's begin on. -/
def Own (w : World) (sz : Nat) (A : Option Addr) (n c : Nat) (xs : List Value) : Prop :=
  xs.length = n * sz ∧ c ≤ maxLen ∧ ((A = none ∧ n = 0 ∧ c = 0) ∨
   ∃ g cur e lo hi, A = some ⟨g, 0, none⟩ ∧ w.heap[g]? = some (.cells cur e (lo, hi)) ∧ n ≤ c ∧ cur.size = c * sz ∧ cur.toList.take (n * sz) = xs ∧ (cur.size ≤ lo ∨ hi ≤ lo))

theorem Own.nil (w : World) (sz : Nat) : Own w sz none 0 0 [] := ⟨by simp, by simp [maxLen], .inl ⟨rfl, rfl, rfl⟩⟩
theorem Own.lt {w : World} {sz : Nat} {A : Option Addr} {n c : Nat} {xs : List Value} (h : Own w sz A n c xs) : ∀ k, ownB A k → k < w.heap.size := by
  rintro k ⟨ad, rfl, rfl⟩
  rcases h.2.2 with ⟨h, _⟩ | ⟨g, cur, e, lo, hi, h, hg, _⟩
  · cases h
  · cases h; exact (Array.getElem?_eq_some_iff.1 hg).1
theorem Own.le {w : World} {sz : Nat} {A : Option Addr} {n c : Nat} {xs : List Value} (h : Own w sz A n c xs) : n ≤ c := by
  rcases h.2.2 with ⟨_, h1, h2⟩ | ⟨_, _, _, _, _, _, _, h, _⟩
  · omega
  · exact h
theorem Own.len {w : World} {sz : Nat} {A : Option Addr} {n c : Nat} {xs : List Value} (h : Own w sz A n c xs) : xs.length = n * sz := h.1
theorem Own.cells {w : World} {sz : Nat} {A : Option Addr} {n c : Nat} {xs : List Value} (h : Own w sz A n c xs) {j : Nat} {v : Value} (hj : xs[j]? = some v) : ∃ g, A = some ⟨g, 0, none⟩ ∧ w.cell? ⟨g, j, none⟩ = some v := by
  rcases h.2.2 with ⟨_, h1, _⟩ | ⟨g, cur, e, lo, hi, hA, hg, _, _, ht, _⟩
  · have := h.1; rw [h1, Nat.zero_mul] at this; rw [List.eq_nil_of_length_eq_zero this] at hj; simp at hj
  · refine ⟨g, hA, ?_⟩
    rw [← ht, List.getElem?_take] at hj
    split at hj
    · rw [cell_of_row w g j cur e _ hg]; simpa using hj
    · cases hj
theorem Own.keep {w w' : World} {S : Nat → Prop} {sz : Nat} {A : Option Addr} {n c : Nat} {xs : List Value} (h : Own w sz A n c xs) (hf : Fr S w w') (hn : ∀ k, ownB A k → ¬ S k) : Own w' sz A n c xs := by
  refine ⟨h.1, h.2.1, ?_⟩
  rcases h.2.2 with hn' | ⟨g, cur, e, lo, hi, hA, hg, rest⟩
  · exact .inl hn'
  · refine .inr ⟨g, cur, e, lo, hi, hA, ?_, rest⟩
    subst hA
    rw [hf.block g (Array.getElem?_eq_some_iff.1 hg).1 (hn g ⟨_, rfl, rfl⟩)]
    exact hg
/-- the begin of what is owned -/
theorem Own.take {w : World} {sz : Nat} {A : Option Addr} {n c : Nat} {xs : List Value} (h : Own w sz A n c xs) {k : Nat} (hk : k ≤ n) : Own w sz A k c (xs.take (k * sz)) := by
  refine ⟨by rw [List.length_take, h.1]; exact Nat.min_eq_left (Nat.mul_le_mul_right _ hk), h.2.1, ?_⟩
  rcases h.2.2 with ⟨h1, h2, h3⟩ | ⟨g, cur, e, lo, hi, hA, hg, hc, hs, ht, hf⟩
  · exact .inl ⟨h1, by omega, h3⟩
  · refine .inr ⟨g, cur, e, lo, hi, hA, hg, by omega, hs, ?_, hf⟩
    rw [← ht, List.take_take, Nat.min_eq_left (Nat.mul_le_mul_right _ hk)]
/-- what was owned, read alone from now on -/
theorem Own.imm {α : Type} {K : Kd α} (hz0 : 0 < K.size) {Ω : Nat → Prop} {w : World} {A : Option Addr} {n c : Nat} {xs : List Value} (h : Own w K.size A n c xs) (hΩ : ∀ k, ownB A k → ¬ Ω k) {l : List α}
    (hl : ∀ i a, l[i]? = some a → K.rep Ω w a ((xs.drop (i * K.size)).take K.size)) : Imm K Ω w A l := by
  intro i a ha
  have hr := hl i a ha
  rcases h.2.2 with ⟨hA, h1, _⟩ | ⟨g, cur, e, lo, hi, hA, hg, _, _, ht, _⟩
  · -- no cells: only where the elements have no size
    have h0 := h.1
    rw [h1, Nat.zero_mul] at h0
    have hx := List.eq_nil_of_length_eq_zero h0
    have hz := K.len hr
    rw [hx] at hz
    simp at hz
    omega
  · refine ⟨_, hA, hΩ g ⟨_, hA, rfl⟩, _, hr, fun j v hj => ?_⟩
    rw [List.getElem?_take] at hj
    split at hj
    · rw [List.getElem?_drop] at hj
      obtain ⟨g', hA', hc⟩ := h.cells hj
      rw [hA] at hA'
      cases hA'
      rw [add_new, Nat.zero_add]
      exact hc
    · cases hj
end Go.Sx
/- What append, make, copy and the conversions come to, over owned memory. -/
set_option linter.unusedVariables false
set_option linter.unusedSimpArgs false
namespace Go.Sx
section
variable {P : Program}

/-- the facts on a slice type: its elements' type, cells and bytes -/
structure SlT (P : Program) (t e sz by_ : Nat) (z : List Value) : Prop where
  ht : und P t = some (.slice e)
  hi : ∃ i, inf P e = some i ∧ i.size = sz ∧ i.bytes = by_ ∧ ∃ zv, i.zero = some zv ∧ cellsL zv = z
  hz : z.length = sz
  pos : 0 < sz

theorem not_frozen {w : World} {g j lo hi : Nat} {cur : Array Value} {e : TypeId} (hg : w.heap[g]? = some (.cells cur e (lo, hi))) (hj : j < cur.size) (hf : cur.size ≤ lo ∨ hi ≤ lo) : w.frozen? ⟨g, j, none⟩ = false := by
  simp only [World.frozen?, hg]
  rcases hf with h | h
  · simp; omega
  · simp; omega

theorem run_storeCells_own (g o : Nat) (e : TypeId) (lo hi : Nat) : ∀ (vs : List Value) (i : Nat) (cur : Array Value) (w : World), w.heap[g]? = some (.cells cur e (lo, hi)) → (cur.size ≤ lo ∨ hi ≤ lo) → o + i + vs.length ≤ cur.size → (∀ v ∈ vs, v.oneCell' = true) →
    (storeCells ⟨g, o, none⟩ vs i).run P w = .ok () (w.setRow g (cur.toList.take (o + i) ++ vs ++ cur.toList.drop (o + i + vs.length)).toArray)
  | [], i, cur, w, hg, _, _, _ => by
    simp only [storeCells, List.append_nil, List.length_nil, Nat.add_zero, List.take_append_drop, Array.toArray_toList]
    rw [setRow_self w g cur e (lo, hi) hg]
    rfl
  | v :: rest, i, cur, w, hg, hf, hl, h1 => by
    have hi' : o + i < cur.size := by simp at hl; omega
    have hcell : w.cell? ⟨g, o + i, none⟩ = some cur[o + i] := by simp [World.cell?, hg, hi']
    have hfro := not_frozen hg hi' hf
    have hst : (store ((⟨g, o, none⟩ : Addr).add i) v).run P w = .ok () (w.setRow g (cur.setIfInBounds (o + i) v)) := by
      rw [add_new, run_store P w _ v _ (h1 v (by simp)), hcell]
      simp [hfro, setCell_eq_setRow w g (o + i) cur e (lo, hi) v hg]
    have ih := run_storeCells_own g o e lo hi rest (i + 1) (cur.setIfInBounds (o + i) v) (w.setRow g (cur.setIfInBounds (o + i) v)) (setRow_heap w g cur _ e _ hg) (by simpa using hf) (by simp at hl ⊢; omega) (fun x hx => h1 x (by simp [hx]))
    simp only [storeCells, Sem.run_bind, hst, Result.andThen_ok, ih, setRow_setRow]
    congr 3
    have e := list_seg_step cur.toList (o + i) v rest (by simp at hl ⊢; omega)
    simpa [Array.toList_setIfInBounds, Nat.add_assoc] using e

/-- What an append takes: so many elements, these cells; read alike wherever the heap is as it is. -/
def Src (P : Program) (w : World) (sz : Nat) (x : Value) (m : Nat) (ys : List Value) : Prop :=
  (∀ w' : World, w'.heap = w.heap → (Builtin.firstCells sz m x).run P w' = .ok ys.toArray w') ∧ (∀ w', (Builtin.lenOf x).run P w' = .ok m w') ∧ ys.length = m * sz ∧ ∀ v ∈ ys, v.oneCell' = true

theorem Src.cells {w : World} {sz m c : Nat} {B : Option Addr} {ys : List Value} (hl : ys.length = m * sz) (h : ∀ j v, ys[j]? = some v → ∃ ad, B = some ad ∧ w.cell? (ad.add j) = some v) (h1 : ∀ v ∈ ys, v.oneCell' = true) : Src P w sz (.slice B m c) m ys := by
  refine ⟨fun w' hw => ?_, fun w' => rfl, hl, h1⟩
  have hc : ∀ a : Addr, w'.cell? a = w.cell? a := fun a => by simp [World.cell?, hw]
  cases B with
  | none =>
    have : ys = [] := by
      cases ys with
      | nil => rfl
      | cons v vs => obtain ⟨ad, h, _⟩ := h 0 v rfl; cases h
    subst this
    simp [Builtin.firstCells]
  | some ad =>
    exact run_firstCells_some (P := P) w' sz m ad m c ys hl (fun j v hj => by obtain ⟨ad', hA, hv⟩ := h j v hj; cases hA; rw [hc]; exact hv)
theorem Src.str {w : World} (s : ByteArray) : Src P w 1 (.string s) s.size (Lib.strCells s) :=
  ⟨fun w' _ => Lib.run_firstCells_string (P := P) w' 1 s, fun _ => rfl, by rw [Lib.strCells_length, Nat.mul_one], Lib.strCells_oneCell s⟩
theorem Src.own {w : World} {sz : Nat} {A : Option Addr} {n c : Nat} {xs : List Value} (h : Own w sz A n c xs) (h1 : ∀ v ∈ xs, v.oneCell' = true) : Src P w sz (.slice A n c) n xs :=
  .cells h.1 (fun j v hj => by obtain ⟨g, hA, hc⟩ := h.cells hj; exact ⟨_, hA, by rw [add_new, Nat.zero_add]; exact hc⟩) h1
/-- a new block's cells -/
theorem alloc_cell (w : World) (cs : Array Value) (e : TypeId) (fr : Nat × Nat) (j : Nat) : (w.alloc (.cells cs e fr)).cell? ⟨w.heap.size, j, none⟩ = cs[j]? := by
  simp [World.cell?, World.alloc, -World.alloc_eq]
theorem Src.new {w : World} {sz m c : Nat} {cs : List Value} (e : TypeId) (hl : cs.length = m * sz) (h1 : ∀ v ∈ cs, v.oneCell' = true) : Src P (w.alloc (.cells cs.toArray e)) sz (.slice (some ⟨w.heap.size, 0, none⟩) m c) m cs :=
  .cells hl (fun j v hj => ⟨_, rfl, by rw [add_new, Nat.zero_add, alloc_cell]; simpa using hj⟩) h1
theorem Src.imm {α : Type} {K : Kd α} {Ω : Nat → Prop} {w : World} {A : Option Addr} {l : List α} {c : Nat} (h : Imm K Ω w A l) {ys : List Value} (hl : ys.length = l.length * K.size)
    (hys : ∀ i a cs, l[i]? = some a → K.rep Ω w a cs → (∀ ad, A = some ad → ∀ j v, cs[j]? = some v → w.cell? (ad.add (i * K.size + j)) = some v) → ∀ j v, cs[j]? = some v → ys[i * K.size + j]? = some v) (h1 : ∀ v ∈ ys, v.oneCell' = true) : Src P w K.size (.slice A l.length c) l.length ys := by
  refine .cells hl (fun j v hj => ?_) h1
  have hlt : j < l.length * K.size := by rw [← hl]; exact (List.getElem?_eq_some_iff.1 hj).1
  have hz : 0 < K.size := by
    rcases Nat.eq_zero_or_pos K.size with h | h
    · rw [h] at hlt; simp at hlt
    · exact h
  have hi : j / K.size < l.length := Nat.div_lt_of_lt_mul (by rwa [Nat.mul_comm] at hlt)
  obtain ⟨ad, hA, _, cs, hr, hc⟩ := h (j / K.size) l[j / K.size] (by simp [hi])
  have hm : j % K.size < cs.length := by rw [K.len hr]; exact Nat.mod_lt _ hz
  have hdm : j / K.size * K.size + j % K.size = j := by rw [Nat.mul_comm]; exact Nat.div_add_mod j K.size
  have e1 := hys (j / K.size) l[j / K.size] cs (by simp [hi]) hr (fun ad' hA' j v hj => by rw [hA] at hA'; cases hA'; exact hc j v hj) (j % K.size) cs[j % K.size] (by simp [hm])
  have e2 := hc (j % K.size) cs[j % K.size] (by simp [hm])
  rw [hdm] at e1 e2
  rw [hj] at e1
  cases e1
  exact ⟨ad, hA, e2⟩
theorem u8_cells_one (l : List UInt8) : ∀ v ∈ l.map u8, v.oneCell' = true := by intro v hv; obtain ⟨b, _, rfl⟩ := List.mem_map.1 hv; rfl
theorem Src.bytes {Ω : Nat → Prop} {w : World} {A : Option Addr} {l : List UInt8} {c : Nat} (h : Imm KB Ω w A l) : Src P w 1 (.slice A l.length c) l.length (l.map u8) :=
  .cells (by simp) (fun j v hj => by
    rw [List.getElem?_map] at hj
    cases hl : l[j]? with
    | none => simp [hl] at hj
    | some b =>
      simp [hl] at hj; subst hj
      obtain ⟨ad, hA, _, cs, hr, hc⟩ := h j b hl
      cases hr
      exact ⟨ad, hA, by have h2 := hc 0 _ rfl; rw [show j * KB.size + 0 = j from Nat.mul_one j] at h2; exact h2⟩) (u8_cells_one l)

theorem zeroCells_eq (z : List Value) (n : Nat) : (Builtin.zeroCells z.toArray n).toList = zerosL z n := by
  have := zeros_eq z.toArray z.length n (by simp)
  simpa [Builtin.zeroCells] using this

/-- **append**: onto what is owned, from whatever source. -/
theorem append_own {t e sz by_ : Nat} {z : List Value} (T : SlT P t e sz by_ z) {t2 ty : TypeId} (ht2 : ∃ d, und P t2 = some d ∧ ∀ k, d ≠ .int k) {w : World} {A : Option Addr} {n c : Nat} {xs : List Value} (h : Own w sz A n c xs)
    {x : Value} {m : Nat} {ys : List Value} (hx : Src P w sz x m ys) (h1 : n + m ≤ maxLen) (h2 : (n + m) * by_ ≤ 140737488355328) :
    ∃ A' c' w', RunsTo P (Builtin.append_ #[t, t2] ty #[.slice A n c, x]) w (.slice A' (n + m) c') w' ∧ Own w' sz A' (n + m) c' (xs ++ ys) ∧ Fr (ownB A) w w' ∧
      (∀ k, ownB A' k → ownB A k ∨ w.heap.size ≤ k) ∧ (m = 0 → A' = A) := by
  obtain ⟨i, hi, hsz, hby, zv, hzv, hzl⟩ := T.hi
  subst hsz; subst hby
  obtain ⟨d2, hd2, hnint⟩ := ht2
  obtain ⟨hfc, hlen, hyl, hy1⟩ := hx
  have hzz : (match d2 with | .int _ => true | _ => false) = false := by cases d2 <;> first | rfl | exact absurd rfl (hnint _)
  have hpos := T.pos
  have hzsz : z.length = i.size := T.hz
  have hl63 : ¬ (((n + m : Nat) : Int) > IntKind.i64.max) := by simp [maxLen] at h1; simp [IntKind.max, IntKind.signed, IntKind.bits]; omega
  -- the arm that grows
  have grow : c < n + m → (Builtin.firstCells i.size n (.slice A n c)).run P w.drew = .ok xs.toArray w.drew →
      (Builtin.append_ #[t, t2] ty #[.slice A n c, x]).run P w = .ok (.slice (some ⟨w.heap.size, 0, none⟩) (n + m) (grownCap w (n + m) c e))
        (w.drew.alloc (.cells (xs.toArray ++ ys.toArray ++ Builtin.zeroCells z.toArray (grownCap w (n + m) c e - (n + m))) e)) := by
    intro hc hold
    have hcap : ¬ (n + m ≤ c) := by omega
    have h48 : ¬ (Builtin.nextslicecap (n + m) c * i.bytes > 2 ^ 48) := by
      have := growslice_fits hc h2
      omega
    have hfd := hfc w.drew rfl
    have hzc : zv.cells = z.toArray := by rw [← hzl, cellsL_eq, Array.toArray_toList]
    simp only [Builtin.append_, List.getElem?_toArray, List.getElem?_cons_zero, List.getElem?_cons_succ, Sem.run_bind, run_und T.ht, Result.andThen_ok, run_size hi, run_und hd2, Sem.run_pure, hzz, Bool.false_eq_true, if_false, hlen, if_neg hcap, run_inf hi, hl63, false_and, if_neg h48, run_choose, Question.forced, World.drew_eq, run_askRoom, hold, hfd, zeroValue, hzv, hzc, newRow, run_newObj, Bool.not_false, if_true]
    rfl
  have grown : ∀ old, c < n + m → Own (w.drew.alloc (.cells (xs.toArray ++ ys.toArray ++ Builtin.zeroCells z.toArray (grownCap w (n + m) old e - (n + m))) e)) i.size (some ⟨w.heap.size, 0, none⟩) (n + m) (grownCap w (n + m) old e) (xs ++ ys) := by
    intro old hc
    have hge := grownCap_ge w (n + m) old e
    refine ⟨by rw [List.length_append, h.1, hyl, Nat.add_mul], grownCap_le_maxLen w (n + m) old e h1, .inr ⟨w.heap.size, _, e, 0, 0, rfl, Go.heap_alloc_new w.drew _, hge, ?_, ?_, .inr (Nat.le_refl _)⟩⟩
    · simp only [Array.size_append, List.size_toArray, size_zeroCells, hzsz, h.1, hyl, ← Nat.add_mul]
      congr 1; omega
    · simp only [Array.toList_append, List.append_assoc]
      rw [← List.append_assoc, show (n + m) * i.size = (xs ++ ys).length by rw [List.length_append, h.1, hyl, Nat.add_mul]]
      exact List.take_left
  have fresh : ∀ o, Fr (ownB A) w (w.drew.alloc o) := fun o => (Fr.drew _ w).ext (Fr.alloc _ _ o)
  rcases h.2.2 with ⟨rfl, rfl, rfl⟩ | ⟨g, cur, e', lo, hi', rfl, hg, hnc, hcs, htake, hfz⟩
  · have hx0 : xs = [] := List.eq_nil_of_length_eq_zero (by simpa using h.1)
    subst hx0
    by_cases hm : m = 0
    · subst hm
      have hy0 : ys = [] := List.eq_nil_of_length_eq_zero (by simpa using hyl)
      subst hy0
      refine ⟨none, 0, w, ?_, Own.nil w _, .refl _ _, fun k hk => (ownB_none k hk).elim, fun _ => rfl⟩
      have hfd := hfc w rfl
      simp only [RunsTo, Builtin.append_, List.getElem?_toArray, List.getElem?_cons_zero, List.getElem?_cons_succ, Sem.run_bind, run_und T.ht, Result.andThen_ok, run_size hi, run_und hd2, Sem.run_pure, hzz, Bool.false_eq_true, if_false, hlen, Nat.add_zero, Nat.le_refl, if_true, Bool.not_false, hfd]
    · exact ⟨_, _, _, grow (by omega) (by simp [Builtin.firstCells]), grown 0 (by omega), fresh _, fun k hk => .inr (by rw [ownB_some] at hk; omega), fun h => absurd h hm⟩
  · by_cases hroom : n + m ≤ c
    · have hfit : n * i.size + ys.length ≤ cur.size := by rw [hyl, hcs, ← Nat.add_mul]; exact Nat.mul_le_mul_right _ hroom
      have hst := run_storeCells_own (P := P) g (n * i.size) e' lo hi' ys 0 cur w hg hfz (by simpa using hfit) hy1
      simp only [Nat.add_zero] at hst
      have hfd := hfc w rfl
      refine ⟨some ⟨g, 0, none⟩, c, w.setRow g (cur.toList.take (n * i.size) ++ ys ++ cur.toList.drop (n * i.size + ys.length)).toArray, ?_, ⟨by rw [List.length_append, h.1, hyl, Nat.add_mul], h.2.1, .inr ⟨g, _, e', lo, hi', rfl, setRow_heap w g cur _ e' _ hg, hroom, ?_, ?_, ?_⟩⟩,
        ⟨rfl, rfl, rfl, by simp, fun k _ hk => setRow_other w g k _ (fun e => hk (by rw [ownB_some]; exact e.symm))⟩, fun k hk => .inl hk, fun _ => rfl⟩
      · simp only [RunsTo, Builtin.append_, List.getElem?_toArray, List.getElem?_cons_zero, List.getElem?_cons_succ, Sem.run_bind, run_und T.ht, Result.andThen_ok, run_size hi, run_und hd2, Sem.run_pure, hzz, Bool.false_eq_true, if_false, hlen, if_pos hroom, Bool.not_false, if_true, hfd, add_new, Nat.zero_add, hst]
      · simp only [List.size_toArray, List.length_append, List.length_take, List.length_drop, Array.length_toList]
        omega
      · rw [htake]
        rw [show (n + m) * i.size = (xs ++ ys).length by rw [List.length_append, h.1, hyl, Nat.add_mul]]
        exact List.take_left
      · simp only [List.size_toArray, List.length_append, List.length_take, List.length_drop, Array.length_toList]
        omega
    · have hold : (Builtin.firstCells i.size n (.slice (some ⟨g, 0, none⟩) n c)).run P w.drew = .ok xs.toArray w.drew :=
        run_firstCells_some (P := P) w.drew i.size n _ n c xs h.1 (fun j v hj => by
          obtain ⟨g', hA, hc⟩ := h.cells hj
          cases hA
          rw [add_new, Nat.zero_add]
          exact hc)
      have hm : m ≠ 0 := by omega
      exact ⟨_, _, _, grow (by omega) hold, grown c (by omega), fresh _, fun k hk => .inr (by rw [ownB_some] at hk; omega), fun h => absurd h hm⟩

/-- one element more, out of the block that the call of append makes for it -/
theorem append_one {t e sz by_ : Nat} {z : List Value} (T : SlT P t e sz by_ z) {ty : TypeId} {w : World} {A : Option Addr} {n c : Nat} {xs : List Value} (h : Own w sz A n c xs)
    {cs : List Value} (hl : cs.length = sz) (hc1 : ∀ v ∈ cs, v.oneCell' = true) {e' : TypeId} (h1 : n + 1 ≤ maxLen) (h2 : (n + 1) * by_ ≤ 140737488355328) :
    ∃ A' c' w', RunsTo P (Builtin.append_ #[t, t] ty #[.slice A n c, .slice (some ⟨w.heap.size, 0, none⟩) 1 1]) (w.alloc (.cells cs.toArray e')) (.slice A' (n + 1) c') w' ∧ Own w' sz A' (n + 1) c' (xs ++ cs) ∧ Fr (ownB A) w w' ∧
      (∀ k, ownB A' k → ownB A k ∨ w.heap.size ≤ k) ∧ A' ≠ none := by
  have ho : Own (w.alloc (.cells cs.toArray e')) sz A n c xs := h.keep (Fr.alloc NoB w _) (fun _ _ h => h)
  obtain ⟨A', c', w', hr, ho', hf, hb, _⟩ := append_own T (ty := ty) (t2 := t) ⟨_, T.ht, fun _ h => by cases h⟩ ho (Src.new (P := P) (m := 1) (c := 1) e' (by simpa using hl) hc1) h1 h2
  refine ⟨A', c', w', hr, ho', (Fr.alloc _ w _).ext hf, fun k hk => ?_, ?_⟩
  · rcases hb k hk with h | h
    · exact .inl h
    · right; simp [World.alloc, -World.alloc_eq] at h; omega
  · rintro rfl
    rcases ho'.2.2 with ⟨_, h, _⟩ | ⟨_, _, _, _, _, h, _⟩
    · omega
    · cases h
end
end Go.Sx
/- Small words for proofs over nests. -/
set_option linter.unusedVariables false
set_option linter.unusedSimpArgs false
namespace Go.Sx
theorem br {b : Bool} {A B : Prop} (h1 : b = true → A) (h2 : b = false → B) : cond b A B := by cases b with | true => exact h1 rfl | false => exact h2 rfl
theorem brd {p : Prop} [Decidable p] {A B : Prop} (h1 : p → A) (h2 : ¬ p → B) : cond (decide p) A B := br (fun h => h1 (of_decide_eq_true h)) (fun h => h2 (of_decide_eq_false h))
theorem brn {p : Prop} [Decidable p] {A B : Prop} (h1 : ¬ p → A) (h2 : p → B) : cond (!decide p) A B := by
  by_cases h : p <;> simp only [h, decide_true, decide_false, Bool.not_true, Bool.not_false, cond_true, cond_false]
  · exact h2 h
  · exact h1 h
theorem wi (x : Int) (h1 : -9223372036854775808 ≤ x) (h2 : x ≤ 9223372036854775807) : IntKind.i64.wrap x = x := by rw [IntKind.wrap_i64]; omega
theorem w8 (x : Int) (h1 : 0 ≤ x) (h2 : x < 256) : IntKind.u8.wrap x = x := by rw [IntKind.wrap_u8]; omega
theorem wu (x : Int) (h1 : 0 ≤ x) (h2 : x < 18446744073709551616) : IntKind.u64.wrap x = x := by
  have e : IntKind.u64.wrap x = x % 18446744073709551616 := by simp [IntKind.wrap, IntKind.signed, IntKind.bits]
  rw [e]; omega
theorem wu_mod (x : Int) : IntKind.u64.wrap x = x % 18446744073709551616 := by simp [IntKind.wrap, IntKind.signed, IntKind.bits]
theorem CallsV.same {P : Program} {f : FuncId} {args : Array Value} {w : World} {u : Value} {K : Value → World → Prop} (h : CallsV P f args w fun v w' => v = u ∧ w' = w) (hk : K u w) : CallsV P f args w K :=
  h.mono fun v w' ⟨h1, h2⟩ => by subst h1; subst h2; exact hk
/-- one slice grew into another -/
structure Grew (A A' : Option Addr) (w w' : World) : Prop where
  fr : Fr (ownB A) w w'
  sub : ∀ k, ownB A' k → ownB A k ∨ w.heap.size ≤ k
theorem Grew.refl (A : Option Addr) (w : World) : Grew A A w w := ⟨.refl _ _, fun _ h => .inl h⟩
theorem Grew.trans {A B C : Option Addr} {a b c : World} (h : Grew A B a b) (h' : Grew B C b c) : Grew A C a c :=
  ⟨h.fr.trans h'.fr (fun _ _ h => h) (fun k hk hb => (h.sub k hb).elim id (fun h => absurd hk (by omega))), fun k hk => (h'.sub k hk).elim (fun h1 => h.sub k h1) (fun h1 => .inr (Nat.le_trans h.fr.size h1))⟩
/-- owned bytes -/
def OwnB (w : World) (A : Option Addr) (c : Nat) (l : List UInt8) : Prop := Own w 1 A l.length c (l.map u8)
theorem OwnB.nil (w : World) : OwnB w none 0 [] := Own.nil w 1
theorem OwnB.keep {w w' : World} {S : Nat → Prop} {A : Option Addr} {c : Nat} {l : List UInt8} (h : OwnB w A c l) (hf : Fr S w w') (hn : ∀ k, ownB A k → ¬ S k) : OwnB w' A c l := Own.keep h hf hn
theorem OwnB.imm {w : World} {A : Option Addr} {c : Nat} {l : List UInt8} (h : OwnB w A c l) {Ω : Nat → Prop} (hΩ : ∀ k, ownB A k → ¬ Ω k) : Imm KB Ω w A l :=
  Own.imm (K := KB) KB_pos h hΩ fun i a ha => by
    show ((l.map u8).drop (i * 1)).take 1 = [u8 a]
    have hlt : i < l.length := (List.getElem?_eq_some_iff.1 ha).1
    have e : l[i] = a := (List.getElem?_eq_some_iff.1 ha).2
    rw [Nat.mul_one, List.drop_eq_getElem_cons (by simpa using hlt)]
    simp [e]
theorem u8_toNat (b : UInt8) : u8 b = .int .u8 (b.toNat : Int) := rfl
theorem toUInt8_int {n : Nat} (h : n < 256) : Value.int .u8 (n : Int) = u8 n.toUInt8 := by
  rw [u8_toNat]; congr 2; simp [Nat.toUInt8]; omega
end Go.Sx
/- Conversions between strings and bytes, and small facts on owned and read bytes. -/
set_option linter.unusedVariables false
set_option linter.unusedSimpArgs false
namespace Go.Sx
section
variable {P : Program}
/-- the types []byte, byte, string -/
structure BT (P : Program) (t e s : TypeId) : Prop where
  ht : und P t = some (.slice e)
  he : und P e = some (.int .u8)
  hs : und P s = some .string

/-- a string's bytes -/
def sb (s : ByteArray) : List UInt8 := s.data.toList
theorem sb_length (s : ByteArray) : (sb s).length = s.size := Array.length_toList
/-- a new slice: its block was not there -/
def New (w : World) (A : Option Addr) : Prop := ∀ k, ownB A k → w.heap.size ≤ k
theorem New.none (w : World) : New w Option.none := fun k h => (ownB_none k h).elim
theorem New.self (w : World) (i : Nat) (s : Option Nat) : New w (some ⟨w.heap.size, i, s⟩) := fun k h => by rw [ownB_some] at h; omega
theorem New.ext {w w' : World} {A : Option Addr} {S : Nat → Prop} (h : New w' A) (hf : Fr S w w') : New w A := fun k hk => Nat.le_trans hf.size (h k hk)
theorem Grew.ext {A A' : Option Addr} {w w1 w2 : World} (g : Grew A A' w1 w2) (h : Ext w w1) (hn : New w A) : Ext w w2 :=
  h.trans g.fr (fun _ _ h => h) (fun k hk ho => absurd hk (Nat.not_lt.2 (hn k ho)))
theorem Grew.new {A A' : Option Addr} {w w1 w2 : World} (g : Grew A A' w1 w2) (h : Ext w w1) (hn : New w A) : New w A' :=
  fun k hk => (g.sub k hk).elim (hn k) (fun h' => Nat.le_trans h.size h')
theorem Ext.step' {w w' : World} (e : Ext w w') {Ω : Nat → Prop} (h : ∀ k, k < w.heap.size → ¬ Ω k) : Step NoB w Ω w' := Fr.step e (fun _ _ h => h) (fun k hk ho => (h k hk ho).elim)
theorem Ext.trans' {a b c : World} (h : Ext a b) (h' : Ext b c) : Ext a c := Fr.ext h h'
theorem Imm.ext {α : Type} {K : Kd α} {Ω : Nat → Prop} {w w' : World} {A : Option Addr} {l : List α} (h : Imm K Ω w A l) (hz : 0 < K.size) (e : Ext w w') : Imm K Ω w' A l := h.keep hz (e.step Ω)
theorem Imm.grew {α : Type} {K : Kd α} {w w' : World} {A B B' : Option Addr} {l : List α} (h : Imm K (ownB B) w A l) (hz : 0 < K.size) (g : Grew B B' w w') : Imm K (ownB B') w' A l :=
  h.keep hz (g.fr.step (fun _ _ h => h) (fun k hk h => (g.sub k h).elim id (fun h' => absurd hk (Nat.not_lt.2 h'))))
theorem Imm.sub {α : Type} {K : Kd α} {Ω Ω' : Nat → Prop} {w : World} {A : Option Addr} {l : List α} (h : Imm K Ω w A l) (hz : 0 < K.size) (hs : ∀ k, k < w.heap.size → Ω' k → Ω k) : Imm K Ω' w A l :=
  h.keep hz ⟨Nat.le_refl _, fun _ _ _ => rfl, hs⟩
theorem Imm.new {α : Type} {K : Kd α} {Ω : Nat → Prop} {w : World} {A B : Option Addr} {l : List α} (h : Imm K Ω w A l) (hz : 0 < K.size) (hn : New w B) : Imm K (ownB B) w A l :=
  h.sub hz fun k hk ho => absurd hk (Nat.not_lt.2 (hn k ho))
theorem OwnB.ext {w w' : World} {A : Option Addr} {c : Nat} {l : List UInt8} (h : OwnB w A c l) (e : Ext w w') : OwnB w' A c l := h.keep e fun _ _ h => h
theorem OwnB.imm0 {w : World} {A : Option Addr} {c : Nat} {l : List UInt8} (h : OwnB w A c l) : Imm KB NoB w A l := h.imm fun _ _ h => h
theorem OwnB.le {w : World} {A : Option Addr} {c : Nat} {l : List UInt8} (h : OwnB w A c l) : l.length ≤ c := Own.le h

/-- a literal's block, or any new one: owned -/
theorem own_block {w : World} {g : Nat} {cs : List Value} {e : TypeId} {fr : Nat × Nat} (h : w.heap[g]? = some (.cells cs.toArray e fr)) {sz n : Nat} (hl : cs.length = n * sz) (hn : n ≤ maxLen) (hf : cs.length ≤ fr.1 ∨ fr.2 ≤ fr.1) :
    Own w sz (some ⟨g, 0, none⟩) n n cs :=
  ⟨hl, hn, .inr ⟨g, cs.toArray, e, fr.1, fr.2, rfl, h, Nat.le_refl _, by simpa using hl, by rw [← hl]; simp, by simpa using hf⟩⟩
theorem own_lit {w : World} {cs : List Value} {e : TypeId} {sz n : Nat} (hl : cs.length = n * sz) (hn : n ≤ maxLen) : Own (w.alloc (.cells cs.toArray e)) sz (some ⟨w.heap.size, 0, none⟩) n n cs :=
  own_block (Go.heap_alloc_new w _) hl hn (.inr (Nat.le_refl _))
theorem ownB_lit {w : World} {l : List UInt8} {e : TypeId} (hn : l.length ≤ maxLen) : OwnB (w.alloc (.cells (l.map u8).toArray e)) (some ⟨w.heap.size, 0, none⟩) l.length l :=
  own_lit (by simp) hn

theorem freeze_heap (w : World) (g n m : Nat) (cs : Array Value) (e : TypeId) (h : w.heap[g]? = some (.cells cs e (0, 0))) (hm : m ≠ 0) : (w.freeze ⟨g, n, none⟩ m).heap[g]? = some (.cells cs e (n, n + m)) := by
  simp [World.freeze, hm, Array.getElem?_modify, h]
theorem freeze_other (w : World) (g n m k : Nat) (h : k ≠ g) : (w.freeze ⟨g, n, none⟩ m).heap[k]? = w.heap[k]? := by
  unfold World.freeze
  split
  · rfl
  · simp only [Array.getElem?_modify]; rw [if_neg (fun e => h e.symm)]
theorem freeze_size (w : World) (a : Addr) (m : Nat) : (w.freeze a m).heap.size = w.heap.size := by unfold World.freeze; split <;> simp
theorem freeze_os (w : World) (a : Addr) (m : Nat) : (w.freeze a m).os = w.os := by unfold World.freeze; split <;> rfl
theorem freeze_tape (w : World) (a : Addr) (m : Nat) : (w.freeze a m).tape = w.tape := by unfold World.freeze; split <;> rfl
theorem freeze_output (w : World) (a : Addr) (m : Nat) : (w.freeze a m).output = w.output := by unfold World.freeze; split <;> rfl
theorem freeze_new_fr (S : Nat → Prop) (w u : World) (hu : Fr S w u) (n m : Nat) : Fr S w (u.freeze ⟨w.heap.size, n, none⟩ m) :=
  ⟨(freeze_os _ _ _).trans hu.os, (freeze_tape _ _ _).trans hu.tape, (freeze_output _ _ _).trans hu.output, by rw [freeze_size]; exact hu.size, fun k hk hn => (freeze_other _ _ _ _ _ (by omega)).trans (hu.block k hk hn)⟩

/-- a string's bytes, anew -/
theorem to_bytes {t e s : TypeId} (T : BT P t e s) (w : World) (x : ByteArray) (hx : x.size ≤ maxLen) :
    ∃ A c w', RunsTo P (convert s t (.string x)) w (.slice A (sb x).length c) w' ∧ OwnB w' A c (sb x) ∧ Ext w w' ∧ New w A ∧ A ≠ none := by
  refine ⟨_, _, _, by rw [sb_length]; exact Lib.run_convert_string_bytes w s t e x (und_underlying T.hs) (und_underlying T.ht) (und_underlying T.he), ?_, ?_, New.self w 0 none, by simp⟩
  · have hge := grownCap_ge w x.size 0 e
    have hcs : (Lib.bytesCells w e x).size = grownCap w x.size 0 e := by
      simp only [Lib.bytesCells, Array.size_append, Array.size_map, Array.size_replicate]
      have : x.data.size = x.size := rfl
      omega
    refine ⟨by simp, grownCap_le_maxLen w _ 0 e hx, .inr ⟨w.heap.size, Lib.bytesCells w e x, e, (Lib.bytesCells w e x).size, (Lib.bytesCells w e x).size + 1, rfl, ?_, by rw [sb_length]; exact hge, by rw [hcs, Nat.mul_one], ?_, .inl (Nat.le_refl _)⟩⟩
    · exact freeze_heap _ _ _ _ _ _ (Go.heap_alloc_new w.drew _) (by decide)
    · have e1 : (Lib.bytesCells w e x).toList = (sb x).map u8 ++ List.replicate (grownCap w x.size 0 e - x.size) (.int .u8 0) := by
        simp [Lib.bytesCells, sb, u8]
      rw [e1, Nat.mul_one]
      have : (sb x).length = ((sb x).map u8).length := by simp
      rw [this]; exact List.take_left
  · exact freeze_new_fr NoB w _ ((Fr.drew _ w).ext (Fr.alloc _ _ _)) _ _

/-- bytes as a string -/
theorem to_str {t e s : TypeId} (T : BT P t e s) {w : World} {Ω : Nat → Prop} {A : Option Addr} {l : List UInt8} (h : Imm KB Ω w A l) (c : Nat) :
    RunsTo P (convert t s (.slice A l.length c)) w (.string ⟨l.toArray⟩) w := by
  unfold RunsTo
  rw [run_convert_bytes_string w t s e _ _ c (und_underlying T.ht) (und_underlying T.he) (und_underlying T.hs)]
  cases A with
  | none =>
    have : l = [] := by
      cases l with
      | nil => rfl
      | cons b r => obtain ⟨ad, h, _⟩ := h 0 b rfl; cases h
    subst this
    simp [Conv.bytesToString]
    rfl
  | some ad =>
    have hl := run_loadCells_list (P := P) w ad (l.map u8) (fun j v hj => by
      rw [List.getElem?_map] at hj
      cases hb : l[j]? with
      | none => simp [hb] at hj
      | some b =>
        simp [hb] at hj; subst hj
        obtain ⟨ad', hA, _, cs, hr, hc⟩ := h j b hb
        cases hA; cases hr
        have h2 := hc 0 _ rfl
        rw [show j * KB.size + 0 = j from Nat.mul_one j] at h2
        exact h2)
    rw [List.length_map] at hl
    rw [run_bytesToString w ad l.length c (l.map fun b => (b.toNat : Int)) (by rw [hl]; simp [u8]), foldl_push_bytes]
    have e2 : (l.map (fun b => (b.toNat : Int))).map (fun n => UInt8.ofNat n.toNat) = l := by
      rw [List.map_map]; conv => rhs; rw [← List.map_id l]
      apply List.map_congr_left; intro b _; simp
    rw [e2]
    simp [ByteArray.empty, ByteArray.emptyWithCapacity]
    rfl
theorem to_str_all {t e s : TypeId} (T : BT P t e s) {w : World} {Ω : Nat → Prop} {A : Option Addr} {l : List UInt8} (h : Imm KB Ω w A l) (c : Nat) :
    ∀ u, Ext w u → RunsTo P (convert t s (.slice A l.length c)) u (.string ⟨l.toArray⟩) u := fun u hu => to_str T (h.ext KB_pos hu) c
theorem eq_str (l l' : List UInt8) : (ByteArray.toList ⟨l.toArray⟩ == ByteArray.toList ⟨l'.toArray⟩) = decide (l = l') := by
  have e : ∀ m : List UInt8, ByteArray.toList ⟨m.toArray⟩ = m := fun m => by
    rw [ByteArray.toList_eq]
  rw [e, e]
  by_cases h : l = l' <;> simp [h]

/-- a literal's bytes, told to be of the type that they are of -/
theorem conv_lit {t e s : TypeId} (T : BT P t e s) (w : World) (l : List UInt8) (e' : TypeId) (n c : Nat) (hn : l.length ≤ maxLen) :
    RunsTo P (convert t t (.slice (some ⟨w.heap.size, 0, none⟩) n c)) (w.alloc (.cells (l.map u8).toArray e')) (.slice (some ⟨w.heap.size, 0, none⟩) n c) ((w.alloc (.cells (l.map u8).toArray e')).freeze ⟨w.heap.size, l.length, none⟩ 1) ∧
      OwnB ((w.alloc (.cells (l.map u8).toArray e')).freeze ⟨w.heap.size, l.length, none⟩ 1) (some ⟨w.heap.size, 0, none⟩) l.length l ∧ Ext w ((w.alloc (.cells (l.map u8).toArray e')).freeze ⟨w.heap.size, l.length, none⟩ 1) := by
  refine ⟨?_, ?_, freeze_new_fr NoB w _ (Fr.alloc _ _ _) _ _⟩
  · have hsh : (w.alloc (.cells (l.map u8).toArray e')).shape? w.heap.size = some (e', l.length) := by
      simp [World.shape?, World.alloc, -World.alloc_eq]
    simp [RunsTo, convert, run_und T.ht, run_und T.he, markStringish, hsh, Result.andThen]
  · exact own_block (freeze_heap _ _ _ _ _ _ (Go.heap_alloc_new w _) (by decide)) (by simp) hn (.inl (by simp))
end
end Go.Sx
/- Owned lists of things: grown by append, read alone thereafter. -/
set_option linter.unusedVariables false
set_option linter.unusedSimpArgs false
namespace Go.Sx
section
variable {P : Program} {α : Type}
/-- A list of things in an owned block; what the things lead to lies elsewhere. -/
def OwnK (K : Kd α) (w : World) (A : Option Addr) (c : Nat) (l : List α) : Prop :=
  ∃ xs, Own w K.size A l.length c xs ∧ ∀ i a, l[i]? = some a → K.rep (ownB A) w a ((xs.drop (i * K.size)).take K.size)
theorem OwnK.nil (K : Kd α) (w : World) : OwnK K w none 0 [] := ⟨[], Own.nil w _, fun i a h => by simp at h⟩
theorem OwnK.ext {K : Kd α} {w w' : World} {A : Option Addr} {c : Nat} {l : List α} (h : OwnK K w A c l) (e : Ext w w') : OwnK K w' A c l := by
  obtain ⟨xs, ho, hr⟩ := h
  exact ⟨xs, ho.keep e (fun _ _ h => h), fun i a ha => K.keep (hr i a ha) (e.step _)⟩
theorem OwnK.le {K : Kd α} {w : World} {A : Option Addr} {c : Nat} {l : List α} (h : OwnK K w A c l) : l.length ≤ c := by
  obtain ⟨xs, ho, _⟩ := h
  exact ho.le
theorem OwnK.imm {K : Kd α} {w : World} {A : Option Addr} {c : Nat} {l : List α} (h : OwnK K w A c l) (hz : 0 < K.size) : Imm K NoB w A l := by
  obtain ⟨xs, ho, hr⟩ := h
  exact ho.imm hz (fun _ _ h => h) fun i a ha => K.keep (hr i a ha) ⟨Nat.le_refl _, fun _ _ _ => rfl, fun _ _ h => h.elim⟩
theorem Grew.step {A A' : Option Addr} {w w' : World} (g : Grew A A' w w') : Step (ownB A) w (ownB A') w' :=
  g.fr.step (fun _ _ h => h) (fun k hk h => (g.sub k h).elim id (fun h' => absurd hk (Nat.not_lt.2 h')))
theorem OwnK.push {K : Kd α} {t e by_ : Nat} {z : List Value} (T : SlT P t e K.size by_ z) {ty : TypeId} {w : World} {A : Option Addr} {c : Nat} {l : List α} (h : OwnK K w A c l) {a : α} {cs : List Value} (ha : K.rep (ownB A) w a cs)
    (h1 : ∀ v ∈ cs, v.oneCell' = true) {e' : TypeId} (hb : l.length + 1 ≤ maxLen) (hb2 : (l.length + 1) * by_ ≤ 140737488355328) :
    ∃ A' c' w', RunsTo P (Builtin.append_ #[t, t] ty #[.slice A l.length c, .slice (some ⟨w.heap.size, 0, none⟩) 1 1]) (w.alloc (.cells cs.toArray e')) (.slice A' (l ++ [a]).length c') w' ∧ OwnK K w' A' c' (l ++ [a]) ∧ Grew A A' w w' := by
  obtain ⟨xs, ho, hr⟩ := h
  obtain ⟨A', c', w', hrun, ho', hf, hs, _⟩ := append_one (ty := ty) T ho (cs := cs) (K.len ha) h1 (e' := e') hb hb2
  have g : Grew A A' w w' := ⟨hf, hs⟩
  refine ⟨A', c', w', by simpa using hrun, ⟨xs ++ cs, by simpa using ho', fun i b hi => ?_⟩, g⟩
  have hlen := ho.len
  rcases Nat.lt_or_ge i l.length with hlt | hge
  · rw [List.getElem?_append_left hlt] at hi
    have hle : (i + 1) * K.size ≤ xs.length := by rw [hlen]; exact Nat.mul_le_mul_right _ hlt
    rw [Nat.add_mul, Nat.one_mul] at hle
    rw [List.drop_append_of_le_length (by omega), List.take_append_of_le_length (by simp; omega)]
    exact K.keep (hr i b hi) g.step
  · rw [List.getElem?_append_right hge] at hi
    have hi0 : i - l.length = 0 := by
      have := (List.getElem?_eq_some_iff.1 hi).1
      simp at this; omega
    rw [hi0] at hi
    have : i = l.length := by omega
    subst this
    cases hi
    rw [← hlen, List.drop_left, List.take_of_length_le (by rw [K.len ha]; exact Nat.le_refl _)]
    exact K.keep ha g.step
/-- a literal's list -/
theorem ownK_lit {K : Kd α} {w : World} {cs : List Value} {e : TypeId} {l : List α} (hl : cs.length = l.length * K.size) (hn : l.length ≤ maxLen)
    (hr : ∀ i a, l[i]? = some a → K.rep NoB w a ((cs.drop (i * K.size)).take K.size)) : OwnK K (w.alloc (.cells cs.toArray e)) (some ⟨w.heap.size, 0, none⟩) l.length l :=
  ⟨cs, own_lit hl hn, fun i a ha => K.keep (hr i a ha) ((Fr.alloc NoB w _).step (fun _ _ h => h.elim) (fun k hk h => by rw [ownB_some] at h; omega))⟩
theorem KBs_rep {Ω : Nat → Prop} {w : World} {A : Option Addr} {c : Nat} {l : List UInt8} (h : Imm KB Ω w A l) (hc : l.length ≤ c) : KBs.rep Ω w l [.slice A l.length c] := ⟨A, c, rfl, hc, h⟩
theorem OwnK.weaken {β : Type} {K : Kd α} {K' : Kd β} {f : α → β} (hs : K.size = K'.size) {w : World} {A : Option Addr} {c : Nat} {l : List α} (h : OwnK K w A c l) (hr : ∀ Ω a cs, K.rep Ω w a cs → K'.rep Ω w (f a) cs) : OwnK K' w A c (l.map f) := by
  obtain ⟨xs, ho, hx⟩ := h
  refine ⟨xs, by rw [List.length_map, ← hs]; exact ho, fun i b hb => ?_⟩
  rw [List.getElem?_map] at hb
  cases hi : l[i]? with
  | none => simp [hi] at hb
  | some a =>
    simp [hi] at hb
    subst hb
    rw [← hs]
    exact hr _ _ _ (hx i a hi)
/-- bytes in a block of their own, from base on -/
def Kd.ownBytes (base : Nat) : Kd (List UInt8) :=
  ⟨1, fun Ω w l cs => ∃ A c, cs = [.slice A l.length c] ∧ OwnB w A c l ∧ ∀ k, ownB A k → ¬ Ω k ∧ base ≤ k, fun ⟨_, _, h, _⟩ => by simp [h], fun ⟨A, c, h, ho, hk⟩ st => by
    refine ⟨A, c, h, ?_, fun k ha => ⟨st.out (Own.lt ho k ha) (hk k ha).1, (hk k ha).2⟩⟩
    refine ⟨ho.1, ho.2.1, ?_⟩
    rcases ho.2.2 with hn | ⟨g, cur, e, lo, hi, hA, hg, rest⟩
    · exact .inl hn
    · subst hA
      exact .inr ⟨g, cur, e, lo, hi, rfl, (st.block g (Array.getElem?_eq_some_iff.1 hg).1 (hk g ⟨_, rfl, rfl⟩).1).trans hg, rest⟩⟩
theorem ownBytes_KBs {base : Nat} {Ω : Nat → Prop} {w : World} {l : List UInt8} {cs : List Value} (h : (Kd.ownBytes base).rep Ω w l cs) : KBs.rep Ω w l cs := by
  obtain ⟨A, c, rfl, ho, hk⟩ := h
  exact KBs_rep (ho.imm fun k ha => (hk k ha).1) ho.le
/-- the cells of a list that is read -/
theorem Imm.cellsOf {K : Kd α} {Ω : Nat → Prop} {w : World} {B : Option Addr} {m : List α} (h : Imm K Ω w B m) (h1 : ∀ a cs, K.rep Ω w a cs → ∀ v ∈ cs, v.oneCell' = true) : ∀ k, k ≤ m.length →
    ∃ ys : List Value, ys.length = k * K.size ∧ (∀ i a, i < k → m[i]? = some a → K.rep Ω w a ((ys.drop (i * K.size)).take K.size)) ∧ (∀ j v, ys[j]? = some v → ∃ ad, B = some ad ∧ w.cell? (ad.add j) = some v) ∧ ∀ v ∈ ys, v.oneCell' = true
  | 0, _ => ⟨[], by simp, fun i a hi => by omega, fun j v hj => by simp at hj, fun v hv => by simp at hv⟩
  | k + 1, hk => by
    obtain ⟨ys, hl, hr, hc, ho⟩ := Imm.cellsOf h h1 k (by omega)
    obtain ⟨ad, hA, _, cs, hrep, hcell⟩ := h k m[k] (by simp)
    have hcl := K.len hrep
    refine ⟨ys ++ cs, by rw [List.length_append, hl, hcl, Nat.add_mul, Nat.one_mul], fun i a hi hia => ?_, fun j v hj => ?_, fun v hv => ?_⟩
    · rcases Nat.lt_or_ge i k with hlt | hge
      · have hle : (i + 1) * K.size ≤ ys.length := by rw [hl]; exact Nat.mul_le_mul_right _ hlt
        rw [Nat.add_mul, Nat.one_mul] at hle
        rw [List.drop_append_of_le_length (by omega), List.take_append_of_le_length (by simp; omega)]
        exact hr i a hlt hia
      · have : i = k := by omega
        subst this
        rw [List.getElem?_eq_getElem (by omega)] at hia
        cases hia
        rw [← hl, List.drop_left, List.take_of_length_le (by omega)]
        exact hrep
    · rcases Nat.lt_or_ge j ys.length with hlt | hge
      · rw [List.getElem?_append_left hlt] at hj
        exact hc j v hj
      · rw [List.getElem?_append_right hge] at hj
        refine ⟨ad, hA, ?_⟩
        have := hcell _ _ hj
        rwa [show k * K.size + (j - ys.length) = j by omega] at this
    · rcases List.mem_append.1 hv with hv | hv
      · exact ho v hv
      · exact h1 _ _ hrep v hv
/-- a list that is read, appended to one that is owned -/
theorem OwnK.append {K : Kd α} {t e by_ : Nat} {z : List Value} (T : SlT P t e K.size by_ z) {ty : TypeId} {w : World} {A B : Option Addr} {c cb : Nat} {l m : List α} (h : OwnK K w A c l) (hB : Imm K (ownB A) w B m)
    (h1 : ∀ a cs, K.rep (ownB A) w a cs → ∀ v ∈ cs, v.oneCell' = true) (hb : l.length + m.length ≤ maxLen) (hb2 : (l.length + m.length) * by_ ≤ 140737488355328) :
    ∃ A' c' w', RunsTo P (Builtin.append_ #[t, t] ty #[.slice A l.length c, .slice B m.length cb]) w (.slice A' (l ++ m).length c') w' ∧ OwnK K w' A' c' (l ++ m) ∧ Grew A A' w w' := by
  obtain ⟨xs, ho, hr⟩ := h
  obtain ⟨ys, hyl, hyr, hyc, hy1⟩ := hB.cellsOf h1 m.length (Nat.le_refl _)
  obtain ⟨A', c', w', hrun, ho', hf, hs, _⟩ := append_own (ty := ty) (t2 := t) T ⟨_, T.ht, fun _ h => by cases h⟩ ho (Src.cells (P := P) (c := cb) hyl hyc hy1) hb hb2
  have g : Grew A A' w w' := ⟨hf, hs⟩
  refine ⟨A', c', w', by rw [List.length_append]; exact hrun, ⟨xs ++ ys, by rw [List.length_append]; exact ho', fun i b hi => ?_⟩, g⟩
  have hlen := ho.len
  rcases Nat.lt_or_ge i l.length with hlt | hge
  · rw [List.getElem?_append_left hlt] at hi
    have hle : (i + 1) * K.size ≤ xs.length := by rw [hlen]; exact Nat.mul_le_mul_right _ hlt
    rw [Nat.add_mul, Nat.one_mul] at hle
    rw [List.drop_append_of_le_length (by omega), List.take_append_of_le_length (by simp; omega)]
    exact K.keep (hr i b hi) g.step
  · rw [List.getElem?_append_right hge] at hi
    have hil : i - l.length < m.length := (List.getElem?_eq_some_iff.1 hi).1
    have e1 : i * K.size = xs.length + (i - l.length) * K.size := by rw [hlen, ← Nat.add_mul]; congr 1; omega
    rw [e1, List.drop_append, List.drop_of_length_le (by omega), List.nil_append, Nat.add_sub_cancel_left]
    exact K.keep (hyr _ b hil hi) g.step
/-- things that are told of in an earlier world -/
def Kd.at (w0 : World) (K : Kd α) : Kd α := ⟨K.size, fun _ _ a cs => K.rep NoB w0 a cs, fun h => K.len h, fun h _ => h⟩
theorem Ext.stepTo {w w' : World} (e : Ext w w') {Ω : Nat → Prop} (h : ∀ k, k < w.heap.size → ¬ Ω k) : Step NoB w Ω w' := e.step' h
theorem OwnK.immAt {K : Kd α} {w0 w : World} {A : Option Addr} {c : Nat} {l : List α} {Ω : Nat → Prop} (h : OwnK (Kd.at w0 K) w A c l) (hz : 0 < K.size) (e : Ext w0 w) (h0 : ∀ k, k < w0.heap.size → ¬ Ω k) (hΩ : ∀ k, ownB A k → ¬ Ω k) : Imm K Ω w A l := by
  obtain ⟨xs, ho, hr⟩ := h
  exact Own.imm (K := K) hz ho hΩ fun i a ha => K.keep (show K.rep NoB w0 a _ from hr i a ha) (e.stepTo h0)
theorem Imm.toOwn {K : Kd α} {w w' : World} {A B : Option Addr} {l : List α} (h : Imm K NoB w A l) (hz : 0 < K.size) (e : Ext w w') (hn : New w B) : Imm K (ownB B) w' A l := h.keep hz (e.stepTo fun k hk ho => absurd hk (Nat.not_lt.2 (hn k ho)))
/-- the item of a list of lists -/
theorem Imm.item {K : Kd α} {hz : 0 < K.size} {Ω : Nat → Prop} {w : World} {A : Option Addr} {l : List (List α)} (h : Imm (Kd.slice K hz) Ω w A l) {x : Int} (h0 : 0 ≤ x) (h1 : x < (l.length : Nat)) :
    ∃ ad, A = some ad ∧ ∃ B c, (l.getD x.toNat []).length ≤ c ∧ Imm K Ω w B (l.getD x.toNat []) ∧ ∀ u, Ext w u → u.cell? (ad.add (x.toNat * 1)) = some (.slice B (l.getD x.toNat []).length c) := by
  have hlt : x.toNat < l.length := by omega
  have hg : l[x.toNat]? = some (l.getD x.toNat []) := by simp [List.getD, hlt]
  obtain ⟨ad, hA, hn, cs, ⟨B, c, rfl, hc, hi⟩, hcell⟩ := h x.toNat _ hg
  exact ⟨ad, hA, B, c, hc, hi, fun u hu => hu.cell (fun h => h) (hcell 0 _ rfl)⟩
/-- memory that may be written to, n cells of it, from base on, but for the block g0 -/
def Wr (base g0 : Nat) (w : World) (A : Option Addr) (n : Nat) : Prop :=
  n = 0 ∨ ∃ g cur e fr, A = some ⟨g, 0, none⟩ ∧ base ≤ g ∧ g ≠ g0 ∧ w.heap[g]? = some (.cells cur e fr) ∧ n ≤ cur.size ∧ (cur.size ≤ fr.1 ∨ fr.2 ≤ fr.1)
theorem Wr.set {base g0 : Nat} {w : World} {A : Option Addr} {n : Nat} (h : Wr base g0 w A n) (g o : Nat) (v : Value) : Wr base g0 (w.setCell ⟨g, o, none⟩ v) A n := by
  rcases h with h | ⟨g', cur, e, fr, rfl, hb, hne, hg, hn, hf⟩
  · exact .inl h
  · by_cases hgg : g' = g
    · subst hgg
      refine .inr ⟨g', cur.setIfInBounds o v, e, fr, rfl, hb, hne, ?_, by simpa using hn, by simpa using hf⟩
      obtain ⟨lo, hi⟩ := fr
      simp [World.setCell, Array.getElem?_modify, hg]
    · refine .inr ⟨g', cur, e, fr, rfl, hb, hne, ?_, hn, hf⟩
      simp only [World.setCell, Array.getElem?_modify]
      rw [if_neg (fun h => hgg h.symm)]
      exact hg
theorem Wr.of {base g0 : Nat} {w : World} {A : Option Addr} {c : Nat} {l : List UInt8} (h : OwnB w A c l) (hk : ∀ k, ownB A k → k ≠ g0 ∧ base ≤ k) : Wr base g0 w A l.length := by
  rcases h.2.2 with ⟨_, h1, _⟩ | ⟨g, cur, e, lo, hi, hA, hg, hn, hs, _, hf⟩
  · exact .inl h1
  · exact .inr ⟨g, cur, e, (lo, hi), hA, (hk g ⟨_, hA, rfl⟩).2, (hk g ⟨_, hA, rfl⟩).1, hg, by omega, hf⟩
theorem Wr.at {base g0 : Nat} {w : World} {A : Option Addr} {n : Nat} (h : Wr base g0 w A n) {j : Nat} (hj : j < n) : ∃ g, A = some ⟨g, 0, none⟩ ∧ base ≤ g ∧ g ≠ g0 ∧ (w.cell? ⟨g, j, none⟩).isSome = true ∧ w.frozen? ⟨g, j, none⟩ = false := by
  rcases h with h | ⟨g, cur, e, fr, hA, hb, hne, hg, hn, hf⟩
  · omega
  · refine ⟨g, hA, hb, hne, ?_, ?_⟩
    · rw [cell_of_row w g j cur e fr hg]
      simp; omega
    · exact not_frozen hg (by omega) hf
end
end Go.Sx
/- A block of one's own, by its number: what a variable that is pointed to lies in. -/
set_option linter.unusedVariables false
set_option linter.unusedSimpArgs false
namespace Go.Sx
/-- the block g holds these cells -/
def Blk (w : World) (g : Nat) (cur : List Value) : Prop := ∃ e, w.heap[g]? = some (.cells cur.toArray e (0, 0))
theorem Blk.alloc (w : World) (cs : List Value) (e : TypeId) : Blk (w.alloc (.cells cs.toArray e)) w.heap.size cs := ⟨e, Go.heap_alloc_new w _⟩
theorem Blk.lt {w : World} {g : Nat} {cur : List Value} (h : Blk w g cur) : g < w.heap.size := by obtain ⟨e, h⟩ := h; exact (Array.getElem?_eq_some_iff.1 h).1
theorem Blk.keep {w w' : World} {g : Nat} {cur : List Value} {S : Nat → Prop} (h : Blk w g cur) (hf : Fr S w w') (hn : ¬ S g) : Blk w' g cur := by
  have hl := h.lt
  obtain ⟨e, h⟩ := h; exact ⟨e, (hf.block g hl hn).trans h⟩
theorem Blk.ext {w w' : World} {g : Nat} {cur : List Value} (h : Blk w g cur) (e : Ext w w') : Blk w' g cur := h.keep e (fun h => h)
theorem Blk.cell0 {w : World} {g : Nat} {cur : List Value} (h : Blk w g cur) {o : Nat} {v : Value} (hv : cur[o]? = some v) : w.cell? ⟨g, o, none⟩ = some v := by
  obtain ⟨e, h⟩ := h
  rw [cell_of_row w g o _ e _ h]; simpa using hv
theorem Blk.cell {w : World} {g : Nat} {cur : List Value} (h : Blk w g cur) {o i : Nat} {v : Value} (hv : cur[o + i]? = some v) : w.cell? ((⟨g, o, none⟩ : Addr).add i) = some v := by rw [add_new]; exact h.cell0 hv
theorem Blk.cell' {w : World} {g : Nat} {cur : List Value} (h : Blk w g cur) {o i j : Nat} {v : Value} (hv : cur[o + i + j]? = some v) : w.cell? (((⟨g, o, none⟩ : Addr).add i).add j) = some v := by rw [add_new, add_new]; exact h.cell0 hv
theorem Blk.unfrozen {w : World} {g : Nat} {cur : List Value} (h : Blk w g cur) (o i : Nat) : w.frozen? ((⟨g, o, none⟩ : Addr).add i) = false := by
  obtain ⟨e, h⟩ := h
  rw [add_new]
  simp [World.frozen?, h]
theorem Blk.unfrozen0 {w : World} {g : Nat} {cur : List Value} (h : Blk w g cur) (o : Nat) : w.frozen? ⟨g, o, none⟩ = false := by
  obtain ⟨e, h⟩ := h
  simp [World.frozen?, h]
theorem Blk.set0 {w : World} {g : Nat} {cur : List Value} (h : Blk w g cur) (o : Nat) (v : Value) : Blk (w.setCell ⟨g, o, none⟩ v) g (cur.set o v) := by
  obtain ⟨e, h⟩ := h
  refine ⟨e, ?_⟩
  simp [World.setCell, Array.getElem?_modify, h]
theorem Blk.set {w : World} {g : Nat} {cur : List Value} (h : Blk w g cur) (o i : Nat) (v : Value) : Blk (w.setCell ((⟨g, o, none⟩ : Addr).add i) v) g (cur.set (o + i) v) := by rw [add_new]; exact h.set0 _ _
theorem Ext.setNew {w w1 : World} (h : Ext w w1) {a : Addr} (ha : w.heap.size ≤ a.block) (v : Value) : Ext w (w1.setCell a v) :=
  h.trans (Fr.setCell (fun k => k = a.block) v (.inr rfl)) (fun _ _ h => h) (fun k hk e => absurd hk (by omega))
theorem Ext.setNewAdd {w w1 : World} (h : Ext w w1) {g o i : Nat} (ha : w.heap.size ≤ g) (v : Value) : Ext w (w1.setCell ((⟨g, o, none⟩ : Addr).add i) v) := h.setNew (by rw [add_block]; exact ha) v
theorem Ext.alloc {w w1 : World} (h : Ext w w1) (o : Obj) : Ext w (w1.alloc o) := h.trans' (Fr.alloc NoB w1 o)
theorem Ext.drew {w w1 : World} (h : Ext w w1) : Ext w w1.drew := h.trans' (Fr.drew NoB w1)
theorem Ext.drew0 {w w1 : World} (h : Ext w.drew w1) : Ext w w1 := (Fr.drew NoB w).ext h
theorem brnb {b : Bool} {A B : Prop} (h1 : b = false → A) (h2 : b = true → B) : cond (!b) A B := by cases b with | true => exact h2 rfl | false => exact h1 rfl
/-! ## worlds by name -/
theorem Fresh.blk {w w' : World} {g : Nat} {cs : List Value} {e : TypeId} (h : Fresh w g w' cs e) : Blk w' g cs := by obtain ⟨rfl, rfl⟩ := h; exact Blk.alloc _ _ _
theorem Fresh.ext {w w' : World} {g : Nat} {cs : List Value} {e : TypeId} (h : Fresh w g w' cs e) : Ext w w' := by obtain ⟨rfl, rfl⟩ := h; exact Fr.alloc NoB w _
theorem Fresh.ge {w w' : World} {g : Nat} {cs : List Value} {e : TypeId} (h : Fresh w g w' cs e) : w.heap.size ≤ g := Nat.le_of_eq h.hg.symm
theorem Fresh.lt {w w' : World} {g : Nat} {cs : List Value} {e : TypeId} (h : Fresh w g w' cs e) : g < w'.heap.size := h.blk.lt
theorem Blk.stOK {w : World} {g o : Nat} {cur : List Value} (h : Blk w g cur) : ∀ (vs : List Value) (i : Nat), o + i + vs.length ≤ cur.length → Go.Sx.stOK ⟨g, o, none⟩ i vs w
  | [], _, _ => trivial
  | [v], i, hl => by
    have hlt : o + i < cur.length := by simp at hl; omega
    exact ⟨by rw [h.cell (v := cur[o + i]) (by simp [hlt])]; rfl, h.unfrozen _ _⟩
  | v :: x :: vs, i, hl => by
    have hlt : o + i < cur.length := by simp at hl; omega
    exact ⟨⟨by rw [h.cell (v := cur[o + i]) (by simp [hlt])]; rfl, h.unfrozen _ _⟩, Blk.stOK h (x :: vs) (i + 1) (by simp at hl ⊢; omega)⟩
/-- cells, set from o on -/
def setL : List Value → Nat → List Value → List Value
  | cur, _, [] => cur
  | cur, o, v :: vs => setL (cur.set o v) (o + 1) vs
theorem Blk.setAll {g o : Nat} : ∀ (vs : List Value) (i : Nat) {w : World} {cur : List Value}, Blk w g cur → Blk (Go.Sx.setAll ⟨g, o, none⟩ i vs w) g (setL cur (o + i) vs)
  | [], _, _, _, h => h
  | v :: vs, i, w, cur, h => by
    have := Blk.setAll (o := o) vs (i + 1) (h.set o i v)
    rwa [← Nat.add_assoc] at this
theorem Fr.setAll {g o : Nat} : ∀ (vs : List Value) (i : Nat) (w : World), Fr (fun k => k = g) w (Go.Sx.setAll ⟨g, o, none⟩ i vs w)
  | [], _, w => .refl _ _
  | v :: vs, i, w => (Fr.setCell (fun k => k = g) v (.inr (by rw [add_block]))).trans (Fr.setAll vs (i + 1) _) (fun _ _ h => h) (fun _ _ h => h)
theorem Ext.setAll {w w1 : World} (h : Ext w w1) {g o : Nat} (hg : w.heap.size ≤ g) (vs : List Value) (i : Nat) : Ext w (Go.Sx.setAll ⟨g, o, none⟩ i vs w1) :=
  h.trans (Fr.setAll vs i w1) (fun _ _ h => h) (fun k hk e => absurd hk (by omega))
theorem Blk.ne {w : World} {g g' : Nat} {cs cs' : List Value} (h : Blk w g cs) (h' : Blk w g' cs') (hd : cs.length ≠ cs'.length) : g ≠ g' := by
  rintro rfl
  obtain ⟨e, h⟩ := h
  obtain ⟨e', h'⟩ := h'
  rw [h] at h'
  cases h'
  exact hd rfl
theorem Fresh.ne {w w' : World} {g k : Nat} {cs cur : List Value} {e : TypeId} (h : Fresh w g w' cs e) (b : Blk w k cur) : k ≠ g := by have := h.ge; have := b.lt; omega
end Go.Sx
