/- Part 5 of the texts of this claim: the engine, contracts, plain laws. -/
import Derived.Test.YtaifphjenebgoaaDoorProg
import Derived.Test.YtaifphjenebgoaaDoorZCApart15P1
import Derived.Test.YtaifphjenebgoaaDoorZCApart15P4
import Derived.Test.YtaifphjenebgoaaDoorZCApart15P2
import Derived.Test.YtaifphjenebgoaaDoorZCApart15P3
/- The preconditions of Go functions, printed by a program of this workplace (nests.py); each is proved to be the engine's own. -/
set_option linter.unusedVariables false
set_option maxRecDepth 100000
namespace Go.Proofs.YtaifphjenebgoaaDoor
open Go Go.Sx
noncomputable def code_Show.W : Int → Int → Int → Int → Int → World → (Value → World → Prop) → Prop := fun (i0 i1 i2 i3 i4 : Int) (w : Go.World) (K : Go.Value → Go.World → Prop) => ∀ (g : Nat) (w' :
 Go.World), Go.Sx.Fresh w g w' [Go.Value.int Go.IntKind.u8 i0, Go.Value.int Go.IntKind.i64 i1, Go.Value.int Go.IntKind.i64 i2, Go.Value.int Go.IntKind.i64 i3, Go.Value.int Go.IntKind.i64 i4] (38 : Nat)
 → ∃ (x : Int), Go.World.cell? w' (Go.Addr.add (Go.Addr.mk g (0 : Nat) Option.none) (0 : Nat)) = Option.some (Go.Value.int Go.IntKind.u8 x) ∧ Go.Sx.CallsV Go.Proofs.Tryd.prog (14 : Nat) #[Go.Value.int
 Go.IntKind.u8 x] w' fun (v : Go.Value) (w' : Go.World) => ∃ (x : ByteArray), v = Go.Value.string x ∧ ∃ (J : ByteArray → Go.World → Prop), (∀ (x : ByteArray) (w : Go.World), J x w → ∃ (x_1 : Int),
 Go.World.cell? w (Go.Addr.add (Go.Addr.mk g (0 : Nat) Option.none) (1 : Nat)) = Option.some (Go.Value.int Go.IntKind.i64 x_1) ∧ ∃ (x_2 : Int), Go.World.cell? w (Go.Addr.add (Go.Addr.mk g (0 : Nat)
 Option.none) (2 : Nat)) = Option.some (Go.Value.int Go.IntKind.i64 x_2) ∧ ∃ (x_3 : Int), Go.World.cell? w (Go.Addr.add (Go.Addr.mk g (0 : Nat) Option.none) (3 : Nat)) = Option.some (Go.Value.int
 Go.IntKind.i64 x_3) ∧ ∃ (x_4 : Int), Go.World.cell? w (Go.Addr.add (Go.Addr.mk g (0 : Nat) Option.none) (4 : Nat)) = Option.some (Go.Value.int Go.IntKind.i64 x_4) ∧ ∃ (I : ByteArray → Int → Go.World →
 Prop), ∃ (μ : ByteArray → Int → Go.World → Nat), I x (0 : Int) w ∧ ∀ (x : ByteArray) (x_5 : Int) (w : Go.World), I x x_5 w → bif Decidable.decide (x_5 < (4 : Int)) then ((0 : Int) ≤ x_5 ∧ x_5 < (↑(4 :
 Nat) : Int)) ∧ bif Decidable.decide (x_5 = (↑(0 : Nat) : Int)) then Go.Sx.CallsV Go.Proofs.Tryd.prog (22 : Nat) #[Go.Value.int Go.IntKind.i64 x_1] w fun (v : Go.Value) (w' : Go.World) => ∃ (x_6 :
 ByteArray), v = Go.Value.string x_6 ∧ ByteArray.size (ByteArray.mk #[(32 : UInt8)]) + ByteArray.size x_6 ≤ (9223372036854775807 : Nat) ∧ ByteArray.size x + ByteArray.size (ByteArray.mk #[(32 : UInt8)]
 ++ x_6) ≤ (9223372036854775807 : Nat) ∧ I (x ++ (ByteArray.mk #[(32 : UInt8)] ++ x_6)) (Go.IntKind.wrap Go.IntKind.i64 (x_5 + (1 : Int))) w' ∧ μ (x ++ (ByteArray.mk #[(32 : UInt8)] ++ x_6))
 (Go.IntKind.wrap Go.IntKind.i64 (x_5 + (1 : Int))) w' < μ x x_5 w else bif Decidable.decide (x_5 = (↑(1 : Nat) : Int)) then Go.Sx.CallsV Go.Proofs.Tryd.prog (22 : Nat) #[Go.Value.int Go.IntKind.i64
 x_2] w fun (v : Go.Value) (w' : Go.World) => ∃ (x_6 : ByteArray), v = Go.Value.string x_6 ∧ ByteArray.size (ByteArray.mk #[(32 : UInt8)]) + ByteArray.size x_6 ≤ (9223372036854775807 : Nat) ∧
 ByteArray.size x + ByteArray.size (ByteArray.mk #[(32 : UInt8)] ++ x_6) ≤ (9223372036854775807 : Nat) ∧ I (x ++ (ByteArray.mk #[(32 : UInt8)] ++ x_6)) (Go.IntKind.wrap Go.IntKind.i64 (x_5 + (1 : Int)))
 w' ∧ μ (x ++ (ByteArray.mk #[(32 : UInt8)] ++ x_6)) (Go.IntKind.wrap Go.IntKind.i64 (x_5 + (1 : Int))) w' < μ x x_5 w else bif Decidable.decide (x_5 = (↑(2 : Nat) : Int)) then Go.Sx.CallsV
 Go.Proofs.Tryd.prog (22 : Nat) #[Go.Value.int Go.IntKind.i64 x_3] w fun (v : Go.Value) (w' : Go.World) => ∃ (x_6 : ByteArray), v = Go.Value.string x_6 ∧ ByteArray.size (ByteArray.mk #[(32 : UInt8)]) +
 ByteArray.size x_6 ≤ (9223372036854775807 : Nat) ∧ ByteArray.size x + ByteArray.size (ByteArray.mk #[(32 : UInt8)] ++ x_6) ≤ (9223372036854775807 : Nat) ∧ I (x ++ (ByteArray.mk #[(32 : UInt8)] ++ x_6))
 (Go.IntKind.wrap Go.IntKind.i64 (x_5 + (1 : Int))) w' ∧ μ (x ++ (ByteArray.mk #[(32 : UInt8)] ++ x_6)) (Go.IntKind.wrap Go.IntKind.i64 (x_5 + (1 : Int))) w' < μ x x_5 w else bif Decidable.decide (x_5 =
 (↑(3 : Nat) : Int)) then Go.Sx.CallsV Go.Proofs.Tryd.prog (22 : Nat) #[Go.Value.int Go.IntKind.i64 x_4] w fun (v : Go.Value) (w' : Go.World) => ∃ (x_6 : ByteArray), v = Go.Value.string x_6 ∧
 ByteArray.size (ByteArray.mk #[(32 : UInt8)]) + ByteArray.size x_6 ≤ (9223372036854775807 : Nat) ∧ ByteArray.size x + ByteArray.size (ByteArray.mk #[(32 : UInt8)] ++ x_6) ≤ (9223372036854775807 : Nat)
 ∧ I (x ++ (ByteArray.mk #[(32 : UInt8)] ++ x_6)) (Go.IntKind.wrap Go.IntKind.i64 (x_5 + (1 : Int))) w' ∧ μ (x ++ (ByteArray.mk #[(32 : UInt8)] ++ x_6)) (Go.IntKind.wrap Go.IntKind.i64 (x_5 + (1 :
 Int))) w' < μ x x_5 w else False else K (Go.Value.string x) w) ∧ bif ByteArray.toList x == ByteArray.toList (ByteArray.mk #[]) then ∃ (x : Int), Go.World.cell? w' (Go.Addr.add (Go.Addr.mk g (0 : Nat)
 Option.none) (0 : Nat)) = Option.some (Go.Value.int Go.IntKind.u8 x) ∧ Go.Sx.CallsV Go.Proofs.Tryd.prog (22 : Nat) #[Go.Value.int Go.IntKind.i64 (Go.IntKind.wrap Go.IntKind.i64 x)] w' fun (v :
 Go.Value) (w' : Go.World) => ∃ (x : ByteArray), v = Go.Value.string x ∧ ByteArray.size (ByteArray.mk #[(111 : UInt8), (112 : UInt8)]) + ByteArray.size x ≤ (9223372036854775807 : Nat) ∧ J (ByteArray.mk
 #[(111 : UInt8), (112 : UInt8)] ++ x) w' else J x w'
theorem code_Show.eq (i0 : Int) (i1 : Int) (i2 : Int) (i3 : Int) (i4 : Int) (w : World) (K : Value → World → Prop) : code_Show.W i0 i1 i2 i3 i4 w K = fnW Tryd.prog Tryd.f11 (.named (.seq .auto (.seq .auto (.join [(3, .one .str)] .auto (.seq (.seq .auto (.block (.loop [(3, .one .str), (25, .one (.int .i64))] .auto))) .auto))))) [.agg #[.int .u8 i0, .int .i64 i1, .int .i64 i2, .int .i64 i3, .int .i64 i4]] w K := by kernel_rfl
theorem code_Show.calls (ok : Okay Tryd.prog) {i0 : Int} {i1 : Int} {i2 : Int} {i3 : Int} {i4 : Int} {w : World} {K : Value → World → Prop} (h : code_Show.W i0 i1 i2 i3 i4 w K) : CallsV Tryd.prog 11 #[.agg #[.int .u8 i0, .int .i64 i1, .int .i64 i2, .int .i64 i3, .int .i64 i4]] w K :=
  fnW_calls ok Tryd.func11 (an := (.named (.seq .auto (.seq .auto (.join [(3, .one .str)] .auto (.seq (.seq .auto (.block (.loop [(3, .one .str), (25, .one (.int .i64))] .auto))) .auto)))))) (args := [.agg #[.int .u8 i0, .int .i64 i1, .int .i64 i2, .int .i64 i3, .int .i64 i4]]) (by rw [← code_Show.eq]; exact h)
noncomputable def code_Word.W : Int → World → (Value → World → Prop) → Prop := fun (o : Int) (w : Go.World) (K : Go.Value → Go.World → Prop) => Go.Sx.CallsV Go.Proofs.Tryd.prog (26 : Nat)
 #[Go.Value.string (ByteArray.mk #[(99 : UInt8), (111 : UInt8), (110 : UInt8), (115 : UInt8), (116 : UInt8), (32 : UInt8), (98 : UInt8), (105 : UInt8), (110 : UInt8), (100 : UInt8), (32 : UInt8), (109 :
 UInt8), (111 : UInt8), (118 : UInt8), (101 : UInt8), (32 : UInt8), (116 : UInt8), (119 : UInt8), (111 : UInt8), (32 : UInt8), (111 : UInt8), (110 : UInt8), (101 : UInt8), (32 : UInt8), (105 : UInt8),
 (115 : UInt8), (32 : UInt8), (99 : UInt8), (97 : UInt8), (115 : UInt8), (116 : UInt8), (32 : UInt8), (99 : UInt8), (97 : UInt8), (108 : UInt8), (108 : UInt8), (32 : UInt8), (109 : UInt8), (117 :
 UInt8), (115 : UInt8), (116 : UInt8), (32 : UInt8), (106 : UInt8), (117 : UInt8), (109 : UInt8), (112 : UInt8), (32 : UInt8), (105 : UInt8), (102 : UInt8), (32 : UInt8), (100 : UInt8), (105 : UInt8),
 (102 : UInt8), (102 : UInt8), (101 : UInt8), (114 : UInt8), (32 : UInt8), (102 : UInt8), (105 : UInt8), (114 : UInt8), (115 : UInt8), (116 : UInt8), (32 : UInt8), (115 : UInt8), (101 : UInt8), (101 :
 UInt8), (107 : UInt8), (32 : UInt8), (110 : UInt8), (101 : UInt8), (120 : UInt8), (116 : UInt8), (32 : UInt8), (112 : UInt8), (97 : UInt8), (115 : UInt8), (116 : UInt8), (32 : UInt8), (102 : UInt8),
 (105 : UInt8), (110 : UInt8), (100 : UInt8), (32 : UInt8), (99 : UInt8), (111 : UInt8), (108 : UInt8), (32 : UInt8), (114 : UInt8), (111 : UInt8), (119 : UInt8), (105 : UInt8), (100 : UInt8), (32 :
 UInt8), (97 : UInt8), (100 : UInt8), (100 : UInt8), (32 : UInt8), (115 : UInt8), (111 : UInt8), (114 : UInt8), (116 : UInt8), (101 : UInt8), (100 : UInt8), (32 : UInt8), (97 : UInt8), (102 : UInt8),
 (116 : UInt8), (101 : UInt8), (114 : UInt8), (32 : UInt8), (116 : UInt8), (97 : UInt8), (107 : UInt8), (101 : UInt8), (32 : UInt8), (99 : UInt8), (108 : UInt8), (101 : UInt8), (97 : UInt8), (114 :
 UInt8), (32 : UInt8), (115 : UInt8), (116 : UInt8), (101 : UInt8), (112 : UInt8), (32 : UInt8), (116 : UInt8), (111 : UInt8), (116 : UInt8), (97 : UInt8), (108 : UInt8), (32 : UInt8), (114 : UInt8),
 (111 : UInt8), (119 : UInt8), (32 : UInt8), (110 : UInt8), (101 : UInt8), (119 : UInt8), (105 : UInt8), (100 : UInt8), (32 : UInt8), (105 : UInt8), (110 : UInt8), (115 : UInt8), (101 : UInt8), (114 :
 UInt8), (116 : UInt8), (32 : UInt8), (100 : UInt8), (101 : UInt8), (108 : UInt8), (101 : UInt8), (116 : UInt8), (101 : UInt8), (32 : UInt8), (100 : UInt8), (101 : UInt8), (102 : UInt8), (105 : UInt8),
 (110 : UInt8), (101 : UInt8), (32 : UInt8), (98 : UInt8), (101 : UInt8), (103 : UInt8), (105 : UInt8), (110 : UInt8), (32 : UInt8), (99 : UInt8), (111 : UInt8), (109 : UInt8), (109 : UInt8), (105 :
 UInt8), (116 : UInt8), (32 : UInt8), (98 : UInt8), (97 : UInt8), (99 : UInt8), (107 : UInt8), (32 : UInt8), (104 : UInt8), (97 : UInt8), (108 : UInt8), (116 : UInt8)]), Go.Value.int Go.IntKind.i64
 (Go.IntKind.wrap Go.IntKind.i64 (Go.IntKind.wrap Go.IntKind.i64 o - (1 : Int)))] w fun (v : Go.Value) (w' : Go.World) => ∃ (x : ByteArray), ∃ (x_1 : Bool), v = Go.Value.tuple #[Go.Value.string x,
 Go.Value.bool x_1] ∧ K (Go.Value.string x) w'
theorem code_Word.eq (o : Int) (w : World) (K : Value → World → Prop) : code_Word.W o w K = fnW Tryd.prog Tryd.f14 (.named .auto) [.int .u8 o] w K := by kernel_rfl
theorem code_Word.calls (ok : Okay Tryd.prog) {o : Int} {w : World} {K : Value → World → Prop} (h : code_Word.W o w K) : CallsV Tryd.prog 14 #[.int .u8 o] w K :=
  fnW_calls ok Tryd.func14 (an := (.named .auto)) (args := [.int .u8 o]) (by rw [← code_Word.eq]; exact h)
noncomputable def cardindexlaw15_Great.W : Int → Int → Int → Option Addr → Nat → Nat → Option Addr → Nat → Nat → Option Addr → Nat → Nat → Option Addr → Nat → Nat → Option Addr → Nat → Nat → Option
 Addr → Nat → Nat → World → (Value → World → Prop) → Prop := fun (p0 p1 p2 : Int) (p3_A : Option Go.Addr) (p3_n p3_c : Nat) (p4_A : Option Go.Addr) (p4_n p4_c : Nat) (p5_A : Option Go.Addr) (p5_n p5_c :
 Nat) (p6_A : Option Go.Addr) (p6_n p6_c : Nat) (p7_A : Option Go.Addr) (p7_n p7_c : Nat) (p8_A : Option Go.Addr) (p8_n p8_c : Nat) (w : Go.World) (K : Go.Value → Go.World → Prop) => ∀ (g : Nat) (w' :
 Go.World), Go.Sx.Fresh w g w' [Go.Value.int Go.IntKind.i64 p0, Go.Value.int Go.IntKind.i64 p1, Go.Value.int Go.IntKind.i64 p2, Go.Value.slice p3_A p3_n p3_c, Go.Value.slice p4_A p4_n p4_c,
 Go.Value.slice p5_A p5_n p5_c, Go.Value.slice p6_A p6_n p6_c, Go.Value.slice p7_A p7_n p7_c, Go.Value.slice p8_A p8_n p8_c] (29 : Nat) → ∃ (x : Option Go.Addr), ∃ (x_1 : Nat), ∃ (x_2 : Nat),
 Go.World.cell? w' (Go.Addr.add (Go.Addr.mk g (0 : Nat) Option.none) (8 : Nat)) = Option.some (Go.Value.slice x x_1 x_2) ∧ bif Decidable.decide ((5000 : Int) < (↑x_1 : Int)) then K (Go.Value.bool
 Bool.true) w' else ∃ (x : Option Go.Addr), ∃ (x_3 : Nat), ∃ (x_4 : Nat), Go.World.cell? w' (Go.Addr.add (Go.Addr.mk g (0 : Nat) Option.none) (3 : Nat)) = Option.some (Go.Value.slice x x_3 x_4) ∧ ∃ (x :
 Option Go.Addr), ∃ (x_5 : Nat), ∃ (x_6 : Nat), Go.World.cell? w' (Go.Addr.add (Go.Addr.mk g (0 : Nat) Option.none) (5 : Nat)) = Option.some (Go.Value.slice x x_5 x_6) ∧ ∃ (x : Option Go.Addr), ∃ (x_7 :
 Nat), ∃ (x_8 : Nat), Go.World.cell? w' (Go.Addr.add (Go.Addr.mk g (0 : Nat) Option.none) (6 : Nat)) = Option.some (Go.Value.slice x x_7 x_8) ∧ ∃ (x : Option Go.Addr), ∃ (x_9 : Nat), ∃ (x_10 : Nat),
 Go.World.cell? w' (Go.Addr.add (Go.Addr.mk g (0 : Nat) Option.none) (7 : Nat)) = Option.some (Go.Value.slice x x_9 x_10) ∧ bif Decidable.decide ((1100 : Int) < Go.IntKind.wrap Go.IntKind.i64
 (Go.IntKind.wrap Go.IntKind.i64 (Go.IntKind.wrap Go.IntKind.i64 ((↑x_3 : Int) + (↑x_5 : Int)) + (↑x_7 : Int)) + (↑x_9 : Int))) then K (Go.Value.bool Bool.true) w' else ∃ (x : Option Go.Addr), ∃ (x_11 :
 Nat), ∃ (x_12 : Nat), Go.World.cell? w' (Go.Addr.add (Go.Addr.mk g (0 : Nat) Option.none) (4 : Nat)) = Option.some (Go.Value.slice x x_11 x_12) ∧ bif Decidable.decide ((1100 : Int) < (↑x_11 : Int))
 then K (Go.Value.bool Bool.true) w' else ∃ (x : Option Go.Addr), ∃ (x_13 : Nat), ∃ (x_14 : Nat), Go.World.cell? w' (Go.Addr.add (Go.Addr.mk g (0 : Nat) Option.none) (3 : Nat)) = Option.some
 (Go.Value.slice x x_13 x_14) ∧ ∃ (I : Int → Int → Go.World → Prop), ∃ (μ : Int → Int → Go.World → Nat), I (0 : Int) (0 : Int) w' ∧ ∀ (x x_15 : Int) (w : Go.World), I x x_15 w → bif Decidable.decide
 (x_15 < (↑x_13 : Int)) then ∃ (x_16 : Option Go.Addr), ∃ (x_17 : Nat), ∃ (x_18 : Nat), Go.World.cell? w (Go.Addr.add (Go.Addr.mk g (0 : Nat) Option.none) (3 : Nat)) = Option.some (Go.Value.slice x_16
 x_17 x_18) ∧ ∃ (ad : Go.Addr), x_16 = Option.some ad ∧ ((0 : Int) ≤ x_15 ∧ x_15 < (↑x_17 : Int)) ∧ ∃ (x_19 : ByteArray), Go.World.cell? w (Go.Addr.add ad (Int.toNat x_15 * (1 : Nat))) = Option.some
 (Go.Value.string x_19) ∧ I (Go.IntKind.wrap Go.IntKind.i64 (x + (↑(ByteArray.size x_19) : Int))) (Go.IntKind.wrap Go.IntKind.i64 (x_15 + (1 : Int))) w ∧ μ (Go.IntKind.wrap Go.IntKind.i64 (x +
 (↑(ByteArray.size x_19) : Int))) (Go.IntKind.wrap Go.IntKind.i64 (x_15 + (1 : Int))) w < μ x x_15 w else ∃ (x_16 : Option Go.Addr), ∃ (x_17 : Nat), ∃ (x_18 : Nat), Go.World.cell? w (Go.Addr.add
 (Go.Addr.mk g (0 : Nat) Option.none) (4 : Nat)) = Option.some (Go.Value.slice x_16 x_17 x_18) ∧ ∃ (I : Int → Int → Go.World → Prop), ∃ (μ : Int → Int → Go.World → Nat), I x (0 : Int) w ∧ ∀ (x x_19 :
 Int) (w : Go.World), I x x_19 w → bif Decidable.decide (x_19 < (↑x_17 : Int)) then ∃ (x_20 : Option Go.Addr), ∃ (x_21 : Nat), ∃ (x_22 : Nat), Go.World.cell? w (Go.Addr.add (Go.Addr.mk g (0 : Nat)
 Option.none) (4 : Nat)) = Option.some (Go.Value.slice x_20 x_21 x_22) ∧ ∃ (ad : Go.Addr), x_20 = Option.some ad ∧ ((0 : Int) ≤ x_19 ∧ x_19 < (↑x_21 : Int)) ∧ ∃ (x_23 : ByteArray), Go.World.cell? w
 (Go.Addr.add (Go.Addr.add ad (Int.toNat x_19 * (3 : Nat))) (2 : Nat)) = Option.some (Go.Value.string x_23) ∧ I (Go.IntKind.wrap Go.IntKind.i64 (x + (↑(ByteArray.size x_23) : Int))) (Go.IntKind.wrap
 Go.IntKind.i64 (x_19 + (1 : Int))) w ∧ μ (Go.IntKind.wrap Go.IntKind.i64 (x + (↑(ByteArray.size x_23) : Int))) (Go.IntKind.wrap Go.IntKind.i64 (x_19 + (1 : Int))) w < μ x x_19 w else ∃ (x_20 : Option
 Go.Addr), ∃ (x_21 : Nat), ∃ (x_22 : Nat), Go.World.cell? w (Go.Addr.add (Go.Addr.mk g (0 : Nat) Option.none) (5 : Nat)) = Option.some (Go.Value.slice x_20 x_21 x_22) ∧ ∃ (I : Int → Int → Go.World →
 Prop), ∃ (μ : Int → Int → Go.World → Nat), I x (0 : Int) w ∧ ∀ (x x_23 : Int) (w : Go.World), I x x_23 w → bif Decidable.decide (x_23 < (↑x_21 : Int)) then ∃ (x_24 : Option Go.Addr), ∃ (x_25 : Nat), ∃
 (x_26 : Nat), Go.World.cell? w (Go.Addr.add (Go.Addr.mk g (0 : Nat) Option.none) (5 : Nat)) = Option.some (Go.Value.slice x_24 x_25 x_26) ∧ ∃ (ad : Go.Addr), x_24 = Option.some ad ∧ ((0 : Int) ≤ x_23 ∧
 x_23 < (↑x_25 : Int)) ∧ ∃ (x_27 : ByteArray), Go.World.cell? w (Go.Addr.add (Go.Addr.add ad (Int.toNat x_23 * (3 : Nat))) (0 : Nat)) = Option.some (Go.Value.string x_27) ∧ I (Go.IntKind.wrap
 Go.IntKind.i64 (x + (↑(ByteArray.size x_27) : Int))) (Go.IntKind.wrap Go.IntKind.i64 (x_23 + (1 : Int))) w ∧ μ (Go.IntKind.wrap Go.IntKind.i64 (x + (↑(ByteArray.size x_27) : Int))) (Go.IntKind.wrap
 Go.IntKind.i64 (x_23 + (1 : Int))) w < μ x x_23 w else ∃ (x_24 : Option Go.Addr), ∃ (x_25 : Nat), ∃ (x_26 : Nat), Go.World.cell? w (Go.Addr.add (Go.Addr.mk g (0 : Nat) Option.none) (6 : Nat)) =
 Option.some (Go.Value.slice x_24 x_25 x_26) ∧ ∃ (I : Int → Int → Go.World → Prop), ∃ (μ : Int → Int → Go.World → Nat), I x (0 : Int) w ∧ ∀ (x x_27 : Int) (w : Go.World), I x x_27 w → bif
 Decidable.decide (x_27 < (↑x_25 : Int)) then ∃ (x_28 : Option Go.Addr), ∃ (x_29 : Nat), ∃ (x_30 : Nat), Go.World.cell? w (Go.Addr.add (Go.Addr.mk g (0 : Nat) Option.none) (6 : Nat)) = Option.some
 (Go.Value.slice x_28 x_29 x_30) ∧ ∃ (ad : Go.Addr), x_28 = Option.some ad ∧ ((0 : Int) ≤ x_27 ∧ x_27 < (↑x_29 : Int)) ∧ ∃ (x_31 : Option Go.Addr), ∃ (x_32 : Nat), ∃ (x_33 : Nat), Go.World.cell? w
 (Go.Addr.add (Go.Addr.add ad (Int.toNat x_27 * (3 : Nat))) (0 : Nat)) = Option.some (Go.Value.slice x_31 x_32 x_33) ∧ I (Go.IntKind.wrap Go.IntKind.i64 (x + (↑x_32 : Int))) (Go.IntKind.wrap
 Go.IntKind.i64 (x_27 + (1 : Int))) w ∧ μ (Go.IntKind.wrap Go.IntKind.i64 (x + (↑x_32 : Int))) (Go.IntKind.wrap Go.IntKind.i64 (x_27 + (1 : Int))) w < μ x x_27 w else ∃ (x_28 : Option Go.Addr), ∃ (x_29
 : Nat), ∃ (x_30 : Nat), Go.World.cell? w (Go.Addr.add (Go.Addr.mk g (0 : Nat) Option.none) (7 : Nat)) = Option.some (Go.Value.slice x_28 x_29 x_30) ∧ ∃ (I : Int → Int → Go.World → Prop), ∃ (μ : Int →
 Int → Go.World → Nat), I x (0 : Int) w ∧ ∀ (x x_31 : Int) (w : Go.World), I x x_31 w → bif Decidable.decide (x_31 < (↑x_29 : Int)) then ∃ (x_32 : Option Go.Addr), ∃ (x_33 : Nat), ∃ (x_34 : Nat),
 Go.World.cell? w (Go.Addr.add (Go.Addr.mk g (0 : Nat) Option.none) (7 : Nat)) = Option.some (Go.Value.slice x_32 x_33 x_34) ∧ ∃ (ad : Go.Addr), x_32 = Option.some ad ∧ ((0 : Int) ≤ x_31 ∧ x_31 < (↑x_33
 : Int)) ∧ ∃ (x_35 : ByteArray), Go.World.cell? w (Go.Addr.add (Go.Addr.add ad (Int.toNat x_31 * (2 : Nat))) (0 : Nat)) = Option.some (Go.Value.string x_35) ∧ I (Go.IntKind.wrap Go.IntKind.i64 (x +
 (↑(ByteArray.size x_35) : Int))) (Go.IntKind.wrap Go.IntKind.i64 (x_31 + (1 : Int))) w ∧ μ (Go.IntKind.wrap Go.IntKind.i64 (x + (↑(ByteArray.size x_35) : Int))) (Go.IntKind.wrap Go.IntKind.i64 (x_31 +
 (1 : Int))) w < μ x x_31 w else K (Go.Value.bool (Decidable.decide ((70000 : Int) < x))) w
theorem cardindexlaw15_Great.eq (p0 : Int) (p1 : Int) (p2 : Int) (p3_A : Option Addr) (p3_n : Nat) (p3_c : Nat) (p4_A : Option Addr) (p4_n : Nat) (p4_c : Nat) (p5_A : Option Addr) (p5_n : Nat) (p5_c : Nat) (p6_A : Option Addr) (p6_n : Nat) (p6_c : Nat) (p7_A : Option Addr) (p7_n : Nat) (p7_c : Nat) (p8_A : Option Addr) (p8_n : Nat) (p8_c : Nat) (w : World) (K : Value → World → Prop) : cardindexlaw15_Great.W p0 p1 p2 p3_A p3_n p3_c p4_A p4_n p4_c p5_A p5_n p5_c p6_A p6_n p6_c p7_A p7_n p7_c p8_A p8_n p8_c w K = fnW Tryd.prog Tryd.f7 (.named (.seq .auto (.seq .auto (.seq .auto (.seq (.seq .auto (.block (.loop [(3, .one (.int .i64)), (40, .one (.int .i64))] .auto))) (.seq (.seq .auto (.block (.loop [(3, .one (.int .i64)), (55, .one (.int .i64))] .auto))) (.seq (.seq .auto (.block (.loop [(3, .one (.int .i64)), (71, .one (.int .i64))] .auto))) (.seq (.seq .auto (.block (.loop [(3, .one (.int .i64)), (87, .one (.int .i64))] .auto))) (.seq (.seq .auto (.block (.loop [(3, .one (.int .i64)), (103, .one (.int .i64))] .auto))) .auto))))))))) [.agg #[.int .i64 p0, .int .i64 p1, .int .i64 p2, .slice p3_A p3_n p3_c, .slice p4_A p4_n p4_c, .slice p5_A p5_n p5_c, .slice p6_A p6_n p6_c, .slice p7_A p7_n p7_c, .slice p8_A p8_n p8_c]] w K := by kernel_rfl
theorem cardindexlaw15_Great.calls (ok : Okay Tryd.prog) {p0 : Int} {p1 : Int} {p2 : Int} {p3_A : Option Addr} {p3_n : Nat} {p3_c : Nat} {p4_A : Option Addr} {p4_n : Nat} {p4_c : Nat} {p5_A : Option Addr} {p5_n : Nat} {p5_c : Nat} {p6_A : Option Addr} {p6_n : Nat} {p6_c : Nat} {p7_A : Option Addr} {p7_n : Nat} {p7_c : Nat} {p8_A : Option Addr} {p8_n : Nat} {p8_c : Nat} {w : World} {K : Value → World → Prop} (h : cardindexlaw15_Great.W p0 p1 p2 p3_A p3_n p3_c p4_A p4_n p4_c p5_A p5_n p5_c p6_A p6_n p6_c p7_A p7_n p7_c p8_A p8_n p8_c w K) : CallsV Tryd.prog 7 #[.agg #[.int .i64 p0, .int .i64 p1, .int .i64 p2, .slice p3_A p3_n p3_c, .slice p4_A p4_n p4_c, .slice p5_A p5_n p5_c, .slice p6_A p6_n p6_c, .slice p7_A p7_n p7_c, .slice p8_A p8_n p8_c]] w K :=
  fnW_calls ok Tryd.func7 (an := (.named (.seq .auto (.seq .auto (.seq .auto (.seq (.seq .auto (.block (.loop [(3, .one (.int .i64)), (40, .one (.int .i64))] .auto))) (.seq (.seq .auto (.block (.loop [(3, .one (.int .i64)), (55, .one (.int .i64))] .auto))) (.seq (.seq .auto (.block (.loop [(3, .one (.int .i64)), (71, .one (.int .i64))] .auto))) (.seq (.seq .auto (.block (.loop [(3, .one (.int .i64)), (87, .one (.int .i64))] .auto))) (.seq (.seq .auto (.block (.loop [(3, .one (.int .i64)), (103, .one (.int .i64))] .auto))) .auto)))))))))) (args := [.agg #[.int .i64 p0, .int .i64 p1, .int .i64 p2, .slice p3_A p3_n p3_c, .slice p4_A p4_n p4_c, .slice p5_A p5_n p5_c, .slice p6_A p6_n p6_c, .slice p7_A p7_n p7_c, .slice p8_A p8_n p8_c]]) (by rw [← cardindexlaw15_Great.eq]; exact h)
noncomputable def cardindexlaw15_awake.W : World → (Value → World → Prop) → Prop := fun (w : Go.World) (K : Go.Value → Go.World → Prop) => ∀ (g : Nat) (w' : Go.World), Go.Sx.Fresh w g w' [Go.Value.int
 Go.IntKind.u8 (35 : Int), Go.Value.int Go.IntKind.i64 (0 : Int), Go.Value.int Go.IntKind.i64 (0 : Int), Go.Value.int Go.IntKind.i64 (0 : Int), Go.Value.int Go.IntKind.i64 (0 : Int)] (38 : Nat) → ∀ (g_1
 : Nat) (w'_1 : Go.World), Go.Sx.Fresh w' g_1 w'_1 [Go.Value.int Go.IntKind.i64 (0 : Int), Go.Value.int Go.IntKind.i64 (0 : Int), Go.Value.int Go.IntKind.i64 (0 : Int), Go.Value.slice Option.none (0 :
 Nat) (0 : Nat), Go.Value.slice Option.none (0 : Nat) (0 : Nat), Go.Value.slice Option.none (0 : Nat) (0 : Nat), Go.Value.slice Option.none (0 : Nat) (0 : Nat), Go.Value.slice Option.none (0 : Nat) (0 :
 Nat), Go.Value.slice Option.none (0 : Nat) (0 : Nat)] (29 : Nat) → Go.Sx.stOK (Go.Addr.mk g_1 (0 : Nat) Option.none) (0 : Nat) [Go.Value.int Go.IntKind.i64 (1 : Int), Go.Value.int Go.IntKind.i64 (1 :
 Int), Go.Value.int Go.IntKind.i64 (0 : Int), Go.Value.slice Option.none (0 : Nat) (0 : Nat), Go.Value.slice Option.none (0 : Nat) (0 : Nat), Go.Value.slice Option.none (0 : Nat) (0 : Nat),
 Go.Value.slice Option.none (0 : Nat) (0 : Nat), Go.Value.slice Option.none (0 : Nat) (0 : Nat), Go.Value.slice (Option.some (Go.Addr.mk g (0 : Nat) Option.none)) (1 : Nat) (1 : Nat)] w'_1 ∧ ∀ (w' :
 Go.World), w' = Go.Sx.setAll (Go.Addr.mk g_1 (0 : Nat) Option.none) (0 : Nat) [Go.Value.int Go.IntKind.i64 (1 : Int), Go.Value.int Go.IntKind.i64 (1 : Int), Go.Value.int Go.IntKind.i64 (0 : Int),
 Go.Value.slice Option.none (0 : Nat) (0 : Nat), Go.Value.slice Option.none (0 : Nat) (0 : Nat), Go.Value.slice Option.none (0 : Nat) (0 : Nat), Go.Value.slice Option.none (0 : Nat) (0 : Nat),
 Go.Value.slice Option.none (0 : Nat) (0 : Nat), Go.Value.slice (Option.some (Go.Addr.mk g (0 : Nat) Option.none)) (1 : Nat) (1 : Nat)] w'_1 → ∃ (S : Go.World → Prop), S (Go.World.drew w') ∧ ∃ (x :
 Int), (∀ (u : Go.World), S u → Go.World.cell? u (Go.Addr.add (Go.Addr.mk g_1 (0 : Nat) Option.none) (0 : Nat)) = Option.some (Go.Value.int Go.IntKind.i64 x)) ∧ ∃ (x_1 : Int), (∀ (u : Go.World), S u →
 Go.World.cell? u (Go.Addr.add (Go.Addr.mk g_1 (0 : Nat) Option.none) (1 : Nat)) = Option.some (Go.Value.int Go.IntKind.i64 x_1)) ∧ ∃ (x_2 : Int), (∀ (u : Go.World), S u → Go.World.cell? u (Go.Addr.add
 (Go.Addr.mk g_1 (0 : Nat) Option.none) (2 : Nat)) = Option.some (Go.Value.int Go.IntKind.i64 x_2)) ∧ ∃ (x_3 : Option Go.Addr), ∃ (x_4 : Nat), ∃ (x_5 : Nat), (∀ (u : Go.World), S u → Go.World.cell? u
 (Go.Addr.add (Go.Addr.mk g_1 (0 : Nat) Option.none) (3 : Nat)) = Option.some (Go.Value.slice x_3 x_4 x_5)) ∧ ∃ (x_6 : Option Go.Addr), ∃ (x_7 : Nat), ∃ (x_8 : Nat), (∀ (u : Go.World), S u →
 Go.World.cell? u (Go.Addr.add (Go.Addr.mk g_1 (0 : Nat) Option.none) (4 : Nat)) = Option.some (Go.Value.slice x_6 x_7 x_8)) ∧ ∃ (x_9 : Option Go.Addr), ∃ (x_10 : Nat), ∃ (x_11 : Nat), (∀ (u :
 Go.World), S u → Go.World.cell? u (Go.Addr.add (Go.Addr.mk g_1 (0 : Nat) Option.none) (5 : Nat)) = Option.some (Go.Value.slice x_9 x_10 x_11)) ∧ ∃ (x_12 : Option Go.Addr), ∃ (x_13 : Nat), ∃ (x_14 :
 Nat), (∀ (u : Go.World), S u → Go.World.cell? u (Go.Addr.add (Go.Addr.mk g_1 (0 : Nat) Option.none) (6 : Nat)) = Option.some (Go.Value.slice x_12 x_13 x_14)) ∧ ∃ (x_15 : Option Go.Addr), ∃ (x_16 :
 Nat), ∃ (x_17 : Nat), (∀ (u : Go.World), S u → Go.World.cell? u (Go.Addr.add (Go.Addr.mk g_1 (0 : Nat) Option.none) (7 : Nat)) = Option.some (Go.Value.slice x_15 x_16 x_17)) ∧ ∃ (x_18 : Option
 Go.Addr), ∃ (x_19 : Nat), ∃ (x_20 : Nat), (∀ (u : Go.World), S u → Go.World.cell? u (Go.Addr.add (Go.Addr.mk g_1 (0 : Nat) Option.none) (8 : Nat)) = Option.some (Go.Value.slice x_18 x_19 x_20)) ∧ ∃
 (x_21 : Int), (∀ (u : Go.World), S u → Go.World.cell? u (Go.Addr.add (Go.Addr.mk g_1 (0 : Nat) Option.none) (0 : Nat)) = Option.some (Go.Value.int Go.IntKind.i64 x_21)) ∧ ∃ (x_22 : Int), (∀ (u :
 Go.World), S u → Go.World.cell? u (Go.Addr.add (Go.Addr.mk g_1 (0 : Nat) Option.none) (1 : Nat)) = Option.some (Go.Value.int Go.IntKind.i64 x_22)) ∧ ∃ (x_23 : Int), (∀ (u : Go.World), S u →
 Go.World.cell? u (Go.Addr.add (Go.Addr.mk g_1 (0 : Nat) Option.none) (2 : Nat)) = Option.some (Go.Value.int Go.IntKind.i64 x_23)) ∧ ∃ (x_24 : Option Go.Addr), ∃ (x_25 : Nat), ∃ (x_26 : Nat), (∀ (u :
 Go.World), S u → Go.World.cell? u (Go.Addr.add (Go.Addr.mk g_1 (0 : Nat) Option.none) (3 : Nat)) = Option.some (Go.Value.slice x_24 x_25 x_26)) ∧ ∃ (x_27 : Option Go.Addr), ∃ (x_28 : Nat), ∃ (x_29 :
 Nat), (∀ (u : Go.World), S u → Go.World.cell? u (Go.Addr.add (Go.Addr.mk g_1 (0 : Nat) Option.none) (4 : Nat)) = Option.some (Go.Value.slice x_27 x_28 x_29)) ∧ ∃ (x_30 : Option Go.Addr), ∃ (x_31 :
 Nat), ∃ (x_32 : Nat), (∀ (u : Go.World), S u → Go.World.cell? u (Go.Addr.add (Go.Addr.mk g_1 (0 : Nat) Option.none) (5 : Nat)) = Option.some (Go.Value.slice x_30 x_31 x_32)) ∧ ∃ (x_33 : Option
 Go.Addr), ∃ (x_34 : Nat), ∃ (x_35 : Nat), (∀ (u : Go.World), S u → Go.World.cell? u (Go.Addr.add (Go.Addr.mk g_1 (0 : Nat) Option.none) (6 : Nat)) = Option.some (Go.Value.slice x_33 x_34 x_35)) ∧ ∃
 (x_36 : Option Go.Addr), ∃ (x_37 : Nat), ∃ (x_38 : Nat), (∀ (u : Go.World), S u → Go.World.cell? u (Go.Addr.add (Go.Addr.mk g_1 (0 : Nat) Option.none) (7 : Nat)) = Option.some (Go.Value.slice x_36 x_37
 x_38)) ∧ ∃ (x_39 : Option Go.Addr), ∃ (x_40 : Nat), ∃ (x_41 : Nat), (∀ (u : Go.World), S u → Go.World.cell? u (Go.Addr.add (Go.Addr.mk g_1 (0 : Nat) Option.none) (8 : Nat)) = Option.some
 (Go.Value.slice x_39 x_40 x_41)) ∧ (∀ (g : Nat) (w'_2 : Go.World), Go.Sx.Fresh (Go.World.drew w') g w'_2 [Go.Value.int Go.IntKind.i64 (0 : Int), Go.Value.int Go.IntKind.i64 (0 : Int), Go.Value.int
 Go.IntKind.i64 (0 : Int), Go.Value.slice Option.none (0 : Nat) (0 : Nat), Go.Value.slice Option.none (0 : Nat) (0 : Nat), Go.Value.slice Option.none (0 : Nat) (0 : Nat), Go.Value.slice Option.none (0 :
 Nat) (0 : Nat), Go.Value.slice Option.none (0 : Nat) (0 : Nat), Go.Value.slice Option.none (0 : Nat) (0 : Nat)] (29 : Nat) → S w'_2 ∧ ∀ (g_2 : Nat) (w' : Go.World), Go.Sx.Fresh w'_2 g_2 w'
 [Go.Value.int Go.IntKind.i64 (0 : Int), Go.Value.int Go.IntKind.i64 (0 : Int), Go.Value.int Go.IntKind.i64 (0 : Int), Go.Value.slice Option.none (0 : Nat) (0 : Nat), Go.Value.slice Option.none (0 :
 Nat) (0 : Nat), Go.Value.slice Option.none (0 : Nat) (0 : Nat), Go.Value.slice Option.none (0 : Nat) (0 : Nat), Go.Value.slice Option.none (0 : Nat) (0 : Nat), Go.Value.slice Option.none (0 : Nat) (0 :
 Nat)] (29 : Nat) → S w' ∧ Go.Sx.stOK (Go.Addr.mk g (0 : Nat) Option.none) (0 : Nat) [Go.Value.int Go.IntKind.i64 x, Go.Value.int Go.IntKind.i64 x_1, Go.Value.int Go.IntKind.i64 x_2, Go.Value.slice x_3
 x_4 x_5, Go.Value.slice x_6 x_7 x_8, Go.Value.slice x_9 x_10 x_11, Go.Value.slice x_12 x_13 x_14, Go.Value.slice x_15 x_16 x_17, Go.Value.slice x_18 x_19 x_20] w' ∧ ∀ (w'_3 : Go.World), w'_3 =
 Go.Sx.setAll (Go.Addr.mk g (0 : Nat) Option.none) (0 : Nat) [Go.Value.int Go.IntKind.i64 x, Go.Value.int Go.IntKind.i64 x_1, Go.Value.int Go.IntKind.i64 x_2, Go.Value.slice x_3 x_4 x_5, Go.Value.slice
 x_6 x_7 x_8, Go.Value.slice x_9 x_10 x_11, Go.Value.slice x_12 x_13 x_14, Go.Value.slice x_15 x_16 x_17, Go.Value.slice x_18 x_19 x_20] w' → S w'_3 ∧ Go.Sx.stOK (Go.Addr.mk g_2 (0 : Nat) Option.none)
 (0 : Nat) [Go.Value.int Go.IntKind.i64 x_21, Go.Value.int Go.IntKind.i64 x_22, Go.Value.int Go.IntKind.i64 x_23, Go.Value.slice x_24 x_25 x_26, Go.Value.slice x_27 x_28 x_29, Go.Value.slice x_30 x_31
 x_32, Go.Value.slice x_33 x_34 x_35, Go.Value.slice x_36 x_37 x_38, Go.Value.slice x_39 x_40 x_41] w'_3 ∧ ∀ (w' : Go.World), w' = Go.Sx.setAll (Go.Addr.mk g_2 (0 : Nat) Option.none) (0 : Nat)
 [Go.Value.int Go.IntKind.i64 x_21, Go.Value.int Go.IntKind.i64 x_22, Go.Value.int Go.IntKind.i64 x_23, Go.Value.slice x_24 x_25 x_26, Go.Value.slice x_27 x_28 x_29, Go.Value.slice x_30 x_31 x_32,
 Go.Value.slice x_33 x_34 x_35, Go.Value.slice x_36 x_37 x_38, Go.Value.slice x_39 x_40 x_41] w'_3 → ∀ (g_3 : Nat) (w'_4 : Go.World), Go.Sx.Fresh w' g_3 w'_4 [Go.Value.int Go.IntKind.u8 (10 : Int),
 Go.Value.int Go.IntKind.i64 (0 : Int), Go.Value.int Go.IntKind.i64 (0 : Int), Go.Value.int Go.IntKind.i64 (0 : Int), Go.Value.int Go.IntKind.i64 (0 : Int), Go.Value.int Go.IntKind.u8 (35 : Int),
 Go.Value.int Go.IntKind.i64 (0 : Int), Go.Value.int Go.IntKind.i64 (0 : Int), Go.Value.int Go.IntKind.i64 (0 : Int), Go.Value.int Go.IntKind.i64 (0 : Int)] (38 : Nat) → Go.Sx.stOK (Go.Addr.add
 (Go.Addr.mk g (0 : Nat) Option.none) (8 : Nat)) (0 : Nat) [Go.Value.slice (Option.some (Go.Addr.mk g_3 (0 : Nat) Option.none)) (2 : Nat) (2 : Nat)] w'_4 ∧ ∀ (w' : Go.World), w' = Go.Sx.setAll
 (Go.Addr.add (Go.Addr.mk g (0 : Nat) Option.none) (8 : Nat)) (0 : Nat) [Go.Value.slice (Option.some (Go.Addr.mk g_3 (0 : Nat) Option.none)) (2 : Nat) (2 : Nat)] w'_4 → ∀ (g_4 : Nat) (w'_5 : Go.World),
 Go.Sx.Fresh w' g_4 w'_5 [Go.Value.int Go.IntKind.u8 (10 : Int), Go.Value.int Go.IntKind.i64 (1 : Int), Go.Value.int Go.IntKind.i64 (0 : Int), Go.Value.int Go.IntKind.i64 (0 : Int), Go.Value.int
 Go.IntKind.i64 (0 : Int), Go.Value.int Go.IntKind.u8 (35 : Int), Go.Value.int Go.IntKind.i64 (0 : Int), Go.Value.int Go.IntKind.i64 (0 : Int), Go.Value.int Go.IntKind.i64 (0 : Int), Go.Value.int
 Go.IntKind.i64 (0 : Int)] (38 : Nat) → Go.Sx.stOK (Go.Addr.add (Go.Addr.mk g_2 (0 : Nat) Option.none) (8 : Nat)) (0 : Nat) [Go.Value.slice (Option.some (Go.Addr.mk g_4 (0 : Nat) Option.none)) (2 : Nat)
 (2 : Nat)] w'_5 ∧ ∀ (w' : Go.World), w' = Go.Sx.setAll (Go.Addr.add (Go.Addr.mk g_2 (0 : Nat) Option.none) (8 : Nat)) (0 : Nat) [Go.Value.slice (Option.some (Go.Addr.mk g_4 (0 : Nat) Option.none)) (2 :
 Nat) (2 : Nat)] w'_5 → Go.Sx.CallsV Go.Proofs.Tryd.prog (11 : Nat) #[Go.Value.agg #[Go.Value.int Go.IntKind.u8 (4 : Int), Go.Value.int Go.IntKind.i64 (2 : Int), Go.Value.int Go.IntKind.i64 (0 : Int),
 Go.Value.int Go.IntKind.i64 (1 : Int), Go.Value.int Go.IntKind.i64 (6 : Int)]] w' fun (v : Go.Value) (w' : Go.World) => ∃ (x : ByteArray), v = Go.Value.string x ∧ bif ByteArray.toList x ==
 ByteArray.toList (ByteArray.mk #[(116 : UInt8), (119 : UInt8), (111 : UInt8), (32 : UInt8), (50 : UInt8), (32 : UInt8), (48 : UInt8), (32 : UInt8), (49 : UInt8), (32 : UInt8), (54 : UInt8)]) then ∃ (x
 : Int), Go.World.cell? w' (Go.Addr.add (Go.Addr.mk g_1 (0 : Nat) Option.none) (0 : Nat)) = Option.some (Go.Value.int Go.IntKind.i64 x) ∧ ∃ (x_42 : Int), Go.World.cell? w' (Go.Addr.add (Go.Addr.mk g_1
 (0 : Nat) Option.none) (1 : Nat)) = Option.some (Go.Value.int Go.IntKind.i64 x_42) ∧ ∃ (x_43 : Int), Go.World.cell? w' (Go.Addr.add (Go.Addr.mk g_1 (0 : Nat) Option.none) (2 : Nat)) = Option.some
 (Go.Value.int Go.IntKind.i64 x_43) ∧ ∃ (x_44 : Option Go.Addr), ∃ (x_45 : Nat), ∃ (x_46 : Nat), Go.World.cell? w' (Go.Addr.add (Go.Addr.mk g_1 (0 : Nat) Option.none) (3 : Nat)) = Option.some
 (Go.Value.slice x_44 x_45 x_46) ∧ ∃ (x_47 : Option Go.Addr), ∃ (x_48 : Nat), ∃ (x_49 : Nat), Go.World.cell? w' (Go.Addr.add (Go.Addr.mk g_1 (0 : Nat) Option.none) (4 : Nat)) = Option.some
 (Go.Value.slice x_47 x_48 x_49) ∧ ∃ (x_50 : Option Go.Addr), ∃ (x_51 : Nat), ∃ (x_52 : Nat), Go.World.cell? w' (Go.Addr.add (Go.Addr.mk g_1 (0 : Nat) Option.none) (5 : Nat)) = Option.some
 (Go.Value.slice x_50 x_51 x_52) ∧ ∃ (x_53 : Option Go.Addr), ∃ (x_54 : Nat), ∃ (x_55 : Nat), Go.World.cell? w' (Go.Addr.add (Go.Addr.mk g_1 (0 : Nat) Option.none) (6 : Nat)) = Option.some
 (Go.Value.slice x_53 x_54 x_55) ∧ ∃ (x_56 : Option Go.Addr), ∃ (x_57 : Nat), ∃ (x_58 : Nat), Go.World.cell? w' (Go.Addr.add (Go.Addr.mk g_1 (0 : Nat) Option.none) (7 : Nat)) = Option.some
 (Go.Value.slice x_56 x_57 x_58) ∧ ∃ (x_59 : Option Go.Addr), ∃ (x_60 : Nat), ∃ (x_61 : Nat), Go.World.cell? w' (Go.Addr.add (Go.Addr.mk g_1 (0 : Nat) Option.none) (8 : Nat)) = Option.some
 (Go.Value.slice x_59 x_60 x_61) ∧ Go.Sx.CallsV Go.Proofs.Tryd.prog (8 : Nat) #[Go.Value.agg #[Go.Value.int Go.IntKind.i64 x, Go.Value.int Go.IntKind.i64 x_42, Go.Value.int Go.IntKind.i64 x_43,
 Go.Value.slice x_44 x_45 x_46, Go.Value.slice x_47 x_48 x_49, Go.Value.slice x_50 x_51 x_52, Go.Value.slice x_53 x_54 x_55, Go.Value.slice x_56 x_57 x_58, Go.Value.slice x_59 x_60 x_61]] w' fun (v :
 Go.Value) (w' : Go.World) => ∃ (x : Int), v = Go.Value.int Go.IntKind.i64 x ∧ bif Decidable.decide (x = (0 : Int)) then ∃ (x : Int), Go.World.cell? w' (Go.Addr.add (Go.Addr.mk g (0 : Nat) Option.none)
 (0 : Nat)) = Option.some (Go.Value.int Go.IntKind.i64 x) ∧ ∃ (x_62 : Int), Go.World.cell? w' (Go.Addr.add (Go.Addr.mk g (0 : Nat) Option.none) (1 : Nat)) = Option.some (Go.Value.int Go.IntKind.i64
 x_62) ∧ ∃ (x_63 : Int), Go.World.cell? w' (Go.Addr.add (Go.Addr.mk g (0 : Nat) Option.none) (2 : Nat)) = Option.some (Go.Value.int Go.IntKind.i64 x_63) ∧ ∃ (x_64 : Option Go.Addr), ∃ (x_65 : Nat), ∃
 (x_66 : Nat), Go.World.cell? w' (Go.Addr.add (Go.Addr.mk g (0 : Nat) Option.none) (3 : Nat)) = Option.some (Go.Value.slice x_64 x_65 x_66) ∧ ∃ (x_67 : Option Go.Addr), ∃ (x_68 : Nat), ∃ (x_69 : Nat),
 Go.World.cell? w' (Go.Addr.add (Go.Addr.mk g (0 : Nat) Option.none) (4 : Nat)) = Option.some (Go.Value.slice x_67 x_68 x_69) ∧ ∃ (x_70 : Option Go.Addr), ∃ (x_71 : Nat), ∃ (x_72 : Nat), Go.World.cell?
 w' (Go.Addr.add (Go.Addr.mk g (0 : Nat) Option.none) (5 : Nat)) = Option.some (Go.Value.slice x_70 x_71 x_72) ∧ ∃ (x_73 : Option Go.Addr), ∃ (x_74 : Nat), ∃ (x_75 : Nat), Go.World.cell? w' (Go.Addr.add
 (Go.Addr.mk g (0 : Nat) Option.none) (6 : Nat)) = Option.some (Go.Value.slice x_73 x_74 x_75) ∧ ∃ (x_76 : Option Go.Addr), ∃ (x_77 : Nat), ∃ (x_78 : Nat), Go.World.cell? w' (Go.Addr.add (Go.Addr.mk g
 (0 : Nat) Option.none) (7 : Nat)) = Option.some (Go.Value.slice x_76 x_77 x_78) ∧ ∃ (x_79 : Option Go.Addr), ∃ (x_80 : Nat), ∃ (x_81 : Nat), Go.World.cell? w' (Go.Addr.add (Go.Addr.mk g (0 : Nat)
 Option.none) (8 : Nat)) = Option.some (Go.Value.slice x_79 x_80 x_81) ∧ Go.Sx.CallsV Go.Proofs.Tryd.prog (8 : Nat) #[Go.Value.agg #[Go.Value.int Go.IntKind.i64 x, Go.Value.int Go.IntKind.i64 x_62,
 Go.Value.int Go.IntKind.i64 x_63, Go.Value.slice x_64 x_65 x_66, Go.Value.slice x_67 x_68 x_69, Go.Value.slice x_70 x_71 x_72, Go.Value.slice x_73 x_74 x_75, Go.Value.slice x_76 x_77 x_78,
 Go.Value.slice x_79 x_80 x_81]] w' fun (v : Go.Value) (w' : Go.World) => ∃ (x : Int), v = Go.Value.int Go.IntKind.i64 x ∧ bif Decidable.decide (x = (140 : Int)) then ∃ (x : Int), Go.World.cell? w'
 (Go.Addr.add (Go.Addr.mk g_2 (0 : Nat) Option.none) (0 : Nat)) = Option.some (Go.Value.int Go.IntKind.i64 x) ∧ ∃ (x_82 : Int), Go.World.cell? w' (Go.Addr.add (Go.Addr.mk g_2 (0 : Nat) Option.none) (1 :
 Nat)) = Option.some (Go.Value.int Go.IntKind.i64 x_82) ∧ ∃ (x_83 : Int), Go.World.cell? w' (Go.Addr.add (Go.Addr.mk g_2 (0 : Nat) Option.none) (2 : Nat)) = Option.some (Go.Value.int Go.IntKind.i64
 x_83) ∧ ∃ (x_84 : Option Go.Addr), ∃ (x_85 : Nat), ∃ (x_86 : Nat), Go.World.cell? w' (Go.Addr.add (Go.Addr.mk g_2 (0 : Nat) Option.none) (3 : Nat)) = Option.some (Go.Value.slice x_84 x_85 x_86) ∧ ∃
 (x_87 : Option Go.Addr), ∃ (x_88 : Nat), ∃ (x_89 : Nat), Go.World.cell? w' (Go.Addr.add (Go.Addr.mk g_2 (0 : Nat) Option.none) (4 : Nat)) = Option.some (Go.Value.slice x_87 x_88 x_89) ∧ ∃ (x_90 :
 Option Go.Addr), ∃ (x_91 : Nat), ∃ (x_92 : Nat), Go.World.cell? w' (Go.Addr.add (Go.Addr.mk g_2 (0 : Nat) Option.none) (5 : Nat)) = Option.some (Go.Value.slice x_90 x_91 x_92) ∧ ∃ (x_93 : Option
 Go.Addr), ∃ (x_94 : Nat), ∃ (x_95 : Nat), Go.World.cell? w' (Go.Addr.add (Go.Addr.mk g_2 (0 : Nat) Option.none) (6 : Nat)) = Option.some (Go.Value.slice x_93 x_94 x_95) ∧ ∃ (x_96 : Option Go.Addr), ∃
 (x_97 : Nat), ∃ (x_98 : Nat), Go.World.cell? w' (Go.Addr.add (Go.Addr.mk g_2 (0 : Nat) Option.none) (7 : Nat)) = Option.some (Go.Value.slice x_96 x_97 x_98) ∧ ∃ (x_99 : Option Go.Addr), ∃ (x_100 :
 Nat), ∃ (x_101 : Nat), Go.World.cell? w' (Go.Addr.add (Go.Addr.mk g_2 (0 : Nat) Option.none) (8 : Nat)) = Option.some (Go.Value.slice x_99 x_100 x_101) ∧ Go.Sx.CallsV Go.Proofs.Tryd.prog (8 : Nat)
 #[Go.Value.agg #[Go.Value.int Go.IntKind.i64 x, Go.Value.int Go.IntKind.i64 x_82, Go.Value.int Go.IntKind.i64 x_83, Go.Value.slice x_84 x_85 x_86, Go.Value.slice x_87 x_88 x_89, Go.Value.slice x_90
 x_91 x_92, Go.Value.slice x_93 x_94 x_95, Go.Value.slice x_96 x_97 x_98, Go.Value.slice x_99 x_100 x_101]] w' fun (v : Go.Value) (w' : Go.World) => ∃ (x : Int), v = Go.Value.int Go.IntKind.i64 x ∧ K
 (Go.Value.bool (Decidable.decide (x = (0 : Int)))) w' else K (Go.Value.bool Bool.false) w' else K (Go.Value.bool Bool.false) w' else K (Go.Value.bool Bool.false) w') ∧ ∀ (g : Nat) (w'_2 : Go.World),
 Go.Sx.Fresh (Go.World.drew w') g w'_2 [Go.Value.int Go.IntKind.i64 (0 : Int), Go.Value.int Go.IntKind.i64 (0 : Int), Go.Value.int Go.IntKind.i64 (0 : Int), Go.Value.slice Option.none (0 : Nat) (0 :
 Nat), Go.Value.slice Option.none (0 : Nat) (0 : Nat), Go.Value.slice Option.none (0 : Nat) (0 : Nat), Go.Value.slice Option.none (0 : Nat) (0 : Nat), Go.Value.slice Option.none (0 : Nat) (0 : Nat),
 Go.Value.slice Option.none (0 : Nat) (0 : Nat)] (29 : Nat) → S w'_2 ∧ ∀ (g_2 : Nat) (w' : Go.World), Go.Sx.Fresh w'_2 g_2 w' [Go.Value.int Go.IntKind.i64 (0 : Int), Go.Value.int Go.IntKind.i64 (0 :
 Int), Go.Value.int Go.IntKind.i64 (0 : Int), Go.Value.slice Option.none (0 : Nat) (0 : Nat), Go.Value.slice Option.none (0 : Nat) (0 : Nat), Go.Value.slice Option.none (0 : Nat) (0 : Nat),
 Go.Value.slice Option.none (0 : Nat) (0 : Nat), Go.Value.slice Option.none (0 : Nat) (0 : Nat), Go.Value.slice Option.none (0 : Nat) (0 : Nat)] (29 : Nat) → S w' ∧ Go.Sx.stOK (Go.Addr.mk g_2 (0 : Nat)
 Option.none) (0 : Nat) [Go.Value.int Go.IntKind.i64 x, Go.Value.int Go.IntKind.i64 x_1, Go.Value.int Go.IntKind.i64 x_2, Go.Value.slice x_3 x_4 x_5, Go.Value.slice x_6 x_7 x_8, Go.Value.slice x_9 x_10
 x_11, Go.Value.slice x_12 x_13 x_14, Go.Value.slice x_15 x_16 x_17, Go.Value.slice x_18 x_19 x_20] w' ∧ ∀ (w'_3 : Go.World), w'_3 = Go.Sx.setAll (Go.Addr.mk g_2 (0 : Nat) Option.none) (0 : Nat)
 [Go.Value.int Go.IntKind.i64 x, Go.Value.int Go.IntKind.i64 x_1, Go.Value.int Go.IntKind.i64 x_2, Go.Value.slice x_3 x_4 x_5, Go.Value.slice x_6 x_7 x_8, Go.Value.slice x_9 x_10 x_11, Go.Value.slice
 x_12 x_13 x_14, Go.Value.slice x_15 x_16 x_17, Go.Value.slice x_18 x_19 x_20] w' → S w'_3 ∧ Go.Sx.stOK (Go.Addr.mk g (0 : Nat) Option.none) (0 : Nat) [Go.Value.int Go.IntKind.i64 x_21, Go.Value.int
 Go.IntKind.i64 x_22, Go.Value.int Go.IntKind.i64 x_23, Go.Value.slice x_24 x_25 x_26, Go.Value.slice x_27 x_28 x_29, Go.Value.slice x_30 x_31 x_32, Go.Value.slice x_33 x_34 x_35, Go.Value.slice x_36
 x_37 x_38, Go.Value.slice x_39 x_40 x_41] w'_3 ∧ ∀ (w' : Go.World), w' = Go.Sx.setAll (Go.Addr.mk g (0 : Nat) Option.none) (0 : Nat) [Go.Value.int Go.IntKind.i64 x_21, Go.Value.int Go.IntKind.i64 x_22,
 Go.Value.int Go.IntKind.i64 x_23, Go.Value.slice x_24 x_25 x_26, Go.Value.slice x_27 x_28 x_29, Go.Value.slice x_30 x_31 x_32, Go.Value.slice x_33 x_34 x_35, Go.Value.slice x_36 x_37 x_38,
 Go.Value.slice x_39 x_40 x_41] w'_3 → ∀ (g_3 : Nat) (w'_4 : Go.World), Go.Sx.Fresh w' g_3 w'_4 [Go.Value.int Go.IntKind.u8 (10 : Int), Go.Value.int Go.IntKind.i64 (0 : Int), Go.Value.int Go.IntKind.i64
 (0 : Int), Go.Value.int Go.IntKind.i64 (0 : Int), Go.Value.int Go.IntKind.i64 (0 : Int), Go.Value.int Go.IntKind.u8 (35 : Int), Go.Value.int Go.IntKind.i64 (0 : Int), Go.Value.int Go.IntKind.i64 (0 :
 Int), Go.Value.int Go.IntKind.i64 (0 : Int), Go.Value.int Go.IntKind.i64 (0 : Int)] (38 : Nat) → Go.Sx.stOK (Go.Addr.add (Go.Addr.mk g_2 (0 : Nat) Option.none) (8 : Nat)) (0 : Nat) [Go.Value.slice
 (Option.some (Go.Addr.mk g_3 (0 : Nat) Option.none)) (2 : Nat) (2 : Nat)] w'_4 ∧ ∀ (w' : Go.World), w' = Go.Sx.setAll (Go.Addr.add (Go.Addr.mk g_2 (0 : Nat) Option.none) (8 : Nat)) (0 : Nat)
 [Go.Value.slice (Option.some (Go.Addr.mk g_3 (0 : Nat) Option.none)) (2 : Nat) (2 : Nat)] w'_4 → ∀ (g_4 : Nat) (w'_5 : Go.World), Go.Sx.Fresh w' g_4 w'_5 [Go.Value.int Go.IntKind.u8 (10 : Int),
 Go.Value.int Go.IntKind.i64 (1 : Int), Go.Value.int Go.IntKind.i64 (0 : Int), Go.Value.int Go.IntKind.i64 (0 : Int), Go.Value.int Go.IntKind.i64 (0 : Int), Go.Value.int Go.IntKind.u8 (35 : Int),
 Go.Value.int Go.IntKind.i64 (0 : Int), Go.Value.int Go.IntKind.i64 (0 : Int), Go.Value.int Go.IntKind.i64 (0 : Int), Go.Value.int Go.IntKind.i64 (0 : Int)] (38 : Nat) → Go.Sx.stOK (Go.Addr.add
 (Go.Addr.mk g (0 : Nat) Option.none) (8 : Nat)) (0 : Nat) [Go.Value.slice (Option.some (Go.Addr.mk g_4 (0 : Nat) Option.none)) (2 : Nat) (2 : Nat)] w'_5 ∧ ∀ (w' : Go.World), w' = Go.Sx.setAll
 (Go.Addr.add (Go.Addr.mk g (0 : Nat) Option.none) (8 : Nat)) (0 : Nat) [Go.Value.slice (Option.some (Go.Addr.mk g_4 (0 : Nat) Option.none)) (2 : Nat) (2 : Nat)] w'_5 → Go.Sx.CallsV Go.Proofs.Tryd.prog
 (11 : Nat) #[Go.Value.agg #[Go.Value.int Go.IntKind.u8 (4 : Int), Go.Value.int Go.IntKind.i64 (2 : Int), Go.Value.int Go.IntKind.i64 (0 : Int), Go.Value.int Go.IntKind.i64 (1 : Int), Go.Value.int
 Go.IntKind.i64 (6 : Int)]] w' fun (v : Go.Value) (w' : Go.World) => ∃ (x : ByteArray), v = Go.Value.string x ∧ bif ByteArray.toList x == ByteArray.toList (ByteArray.mk #[(116 : UInt8), (119 : UInt8),
 (111 : UInt8), (32 : UInt8), (50 : UInt8), (32 : UInt8), (48 : UInt8), (32 : UInt8), (49 : UInt8), (32 : UInt8), (54 : UInt8)]) then ∃ (x : Int), Go.World.cell? w' (Go.Addr.add (Go.Addr.mk g_1 (0 :
 Nat) Option.none) (0 : Nat)) = Option.some (Go.Value.int Go.IntKind.i64 x) ∧ ∃ (x_42 : Int), Go.World.cell? w' (Go.Addr.add (Go.Addr.mk g_1 (0 : Nat) Option.none) (1 : Nat)) = Option.some (Go.Value.int
 Go.IntKind.i64 x_42) ∧ ∃ (x_43 : Int), Go.World.cell? w' (Go.Addr.add (Go.Addr.mk g_1 (0 : Nat) Option.none) (2 : Nat)) = Option.some (Go.Value.int Go.IntKind.i64 x_43) ∧ ∃ (x_44 : Option Go.Addr), ∃
 (x_45 : Nat), ∃ (x_46 : Nat), Go.World.cell? w' (Go.Addr.add (Go.Addr.mk g_1 (0 : Nat) Option.none) (3 : Nat)) = Option.some (Go.Value.slice x_44 x_45 x_46) ∧ ∃ (x_47 : Option Go.Addr), ∃ (x_48 : Nat),
 ∃ (x_49 : Nat), Go.World.cell? w' (Go.Addr.add (Go.Addr.mk g_1 (0 : Nat) Option.none) (4 : Nat)) = Option.some (Go.Value.slice x_47 x_48 x_49) ∧ ∃ (x_50 : Option Go.Addr), ∃ (x_51 : Nat), ∃ (x_52 :
 Nat), Go.World.cell? w' (Go.Addr.add (Go.Addr.mk g_1 (0 : Nat) Option.none) (5 : Nat)) = Option.some (Go.Value.slice x_50 x_51 x_52) ∧ ∃ (x_53 : Option Go.Addr), ∃ (x_54 : Nat), ∃ (x_55 : Nat),
 Go.World.cell? w' (Go.Addr.add (Go.Addr.mk g_1 (0 : Nat) Option.none) (6 : Nat)) = Option.some (Go.Value.slice x_53 x_54 x_55) ∧ ∃ (x_56 : Option Go.Addr), ∃ (x_57 : Nat), ∃ (x_58 : Nat),
 Go.World.cell? w' (Go.Addr.add (Go.Addr.mk g_1 (0 : Nat) Option.none) (7 : Nat)) = Option.some (Go.Value.slice x_56 x_57 x_58) ∧ ∃ (x_59 : Option Go.Addr), ∃ (x_60 : Nat), ∃ (x_61 : Nat),
 Go.World.cell? w' (Go.Addr.add (Go.Addr.mk g_1 (0 : Nat) Option.none) (8 : Nat)) = Option.some (Go.Value.slice x_59 x_60 x_61) ∧ Go.Sx.CallsV Go.Proofs.Tryd.prog (8 : Nat) #[Go.Value.agg #[Go.Value.int
 Go.IntKind.i64 x, Go.Value.int Go.IntKind.i64 x_42, Go.Value.int Go.IntKind.i64 x_43, Go.Value.slice x_44 x_45 x_46, Go.Value.slice x_47 x_48 x_49, Go.Value.slice x_50 x_51 x_52, Go.Value.slice x_53
 x_54 x_55, Go.Value.slice x_56 x_57 x_58, Go.Value.slice x_59 x_60 x_61]] w' fun (v : Go.Value) (w' : Go.World) => ∃ (x : Int), v = Go.Value.int Go.IntKind.i64 x ∧ bif Decidable.decide (x = (0 : Int))
 then ∃ (x : Int), Go.World.cell? w' (Go.Addr.add (Go.Addr.mk g_2 (0 : Nat) Option.none) (0 : Nat)) = Option.some (Go.Value.int Go.IntKind.i64 x) ∧ ∃ (x_62 : Int), Go.World.cell? w' (Go.Addr.add
 (Go.Addr.mk g_2 (0 : Nat) Option.none) (1 : Nat)) = Option.some (Go.Value.int Go.IntKind.i64 x_62) ∧ ∃ (x_63 : Int), Go.World.cell? w' (Go.Addr.add (Go.Addr.mk g_2 (0 : Nat) Option.none) (2 : Nat)) =
 Option.some (Go.Value.int Go.IntKind.i64 x_63) ∧ ∃ (x_64 : Option Go.Addr), ∃ (x_65 : Nat), ∃ (x_66 : Nat), Go.World.cell? w' (Go.Addr.add (Go.Addr.mk g_2 (0 : Nat) Option.none) (3 : Nat)) =
 Option.some (Go.Value.slice x_64 x_65 x_66) ∧ ∃ (x_67 : Option Go.Addr), ∃ (x_68 : Nat), ∃ (x_69 : Nat), Go.World.cell? w' (Go.Addr.add (Go.Addr.mk g_2 (0 : Nat) Option.none) (4 : Nat)) = Option.some
 (Go.Value.slice x_67 x_68 x_69) ∧ ∃ (x_70 : Option Go.Addr), ∃ (x_71 : Nat), ∃ (x_72 : Nat), Go.World.cell? w' (Go.Addr.add (Go.Addr.mk g_2 (0 : Nat) Option.none) (5 : Nat)) = Option.some
 (Go.Value.slice x_70 x_71 x_72) ∧ ∃ (x_73 : Option Go.Addr), ∃ (x_74 : Nat), ∃ (x_75 : Nat), Go.World.cell? w' (Go.Addr.add (Go.Addr.mk g_2 (0 : Nat) Option.none) (6 : Nat)) = Option.some
 (Go.Value.slice x_73 x_74 x_75) ∧ ∃ (x_76 : Option Go.Addr), ∃ (x_77 : Nat), ∃ (x_78 : Nat), Go.World.cell? w' (Go.Addr.add (Go.Addr.mk g_2 (0 : Nat) Option.none) (7 : Nat)) = Option.some
 (Go.Value.slice x_76 x_77 x_78) ∧ ∃ (x_79 : Option Go.Addr), ∃ (x_80 : Nat), ∃ (x_81 : Nat), Go.World.cell? w' (Go.Addr.add (Go.Addr.mk g_2 (0 : Nat) Option.none) (8 : Nat)) = Option.some
 (Go.Value.slice x_79 x_80 x_81) ∧ Go.Sx.CallsV Go.Proofs.Tryd.prog (8 : Nat) #[Go.Value.agg #[Go.Value.int Go.IntKind.i64 x, Go.Value.int Go.IntKind.i64 x_62, Go.Value.int Go.IntKind.i64 x_63,
 Go.Value.slice x_64 x_65 x_66, Go.Value.slice x_67 x_68 x_69, Go.Value.slice x_70 x_71 x_72, Go.Value.slice x_73 x_74 x_75, Go.Value.slice x_76 x_77 x_78, Go.Value.slice x_79 x_80 x_81]] w' fun (v :
 Go.Value) (w' : Go.World) => ∃ (x : Int), v = Go.Value.int Go.IntKind.i64 x ∧ bif Decidable.decide (x = (140 : Int)) then ∃ (x : Int), Go.World.cell? w' (Go.Addr.add (Go.Addr.mk g (0 : Nat)
 Option.none) (0 : Nat)) = Option.some (Go.Value.int Go.IntKind.i64 x) ∧ ∃ (x_82 : Int), Go.World.cell? w' (Go.Addr.add (Go.Addr.mk g (0 : Nat) Option.none) (1 : Nat)) = Option.some (Go.Value.int
 Go.IntKind.i64 x_82) ∧ ∃ (x_83 : Int), Go.World.cell? w' (Go.Addr.add (Go.Addr.mk g (0 : Nat) Option.none) (2 : Nat)) = Option.some (Go.Value.int Go.IntKind.i64 x_83) ∧ ∃ (x_84 : Option Go.Addr), ∃
 (x_85 : Nat), ∃ (x_86 : Nat), Go.World.cell? w' (Go.Addr.add (Go.Addr.mk g (0 : Nat) Option.none) (3 : Nat)) = Option.some (Go.Value.slice x_84 x_85 x_86) ∧ ∃ (x_87 : Option Go.Addr), ∃ (x_88 : Nat), ∃
 (x_89 : Nat), Go.World.cell? w' (Go.Addr.add (Go.Addr.mk g (0 : Nat) Option.none) (4 : Nat)) = Option.some (Go.Value.slice x_87 x_88 x_89) ∧ ∃ (x_90 : Option Go.Addr), ∃ (x_91 : Nat), ∃ (x_92 : Nat),
 Go.World.cell? w' (Go.Addr.add (Go.Addr.mk g (0 : Nat) Option.none) (5 : Nat)) = Option.some (Go.Value.slice x_90 x_91 x_92) ∧ ∃ (x_93 : Option Go.Addr), ∃ (x_94 : Nat), ∃ (x_95 : Nat), Go.World.cell?
 w' (Go.Addr.add (Go.Addr.mk g (0 : Nat) Option.none) (6 : Nat)) = Option.some (Go.Value.slice x_93 x_94 x_95) ∧ ∃ (x_96 : Option Go.Addr), ∃ (x_97 : Nat), ∃ (x_98 : Nat), Go.World.cell? w' (Go.Addr.add
 (Go.Addr.mk g (0 : Nat) Option.none) (7 : Nat)) = Option.some (Go.Value.slice x_96 x_97 x_98) ∧ ∃ (x_99 : Option Go.Addr), ∃ (x_100 : Nat), ∃ (x_101 : Nat), Go.World.cell? w' (Go.Addr.add (Go.Addr.mk g
 (0 : Nat) Option.none) (8 : Nat)) = Option.some (Go.Value.slice x_99 x_100 x_101) ∧ Go.Sx.CallsV Go.Proofs.Tryd.prog (8 : Nat) #[Go.Value.agg #[Go.Value.int Go.IntKind.i64 x, Go.Value.int
 Go.IntKind.i64 x_82, Go.Value.int Go.IntKind.i64 x_83, Go.Value.slice x_84 x_85 x_86, Go.Value.slice x_87 x_88 x_89, Go.Value.slice x_90 x_91 x_92, Go.Value.slice x_93 x_94 x_95, Go.Value.slice x_96
 x_97 x_98, Go.Value.slice x_99 x_100 x_101]] w' fun (v : Go.Value) (w' : Go.World) => ∃ (x : Int), v = Go.Value.int Go.IntKind.i64 x ∧ K (Go.Value.bool (Decidable.decide (x = (0 : Int)))) w' else K
 (Go.Value.bool Bool.false) w' else K (Go.Value.bool Bool.false) w' else K (Go.Value.bool Bool.false) w'
theorem cardindexlaw15_awake.eq  (w : World) (K : Value → World → Prop) : cardindexlaw15_awake.W  w K = fnW Tryd.prog Tryd.f9 (.named .auto) [] w K := by kernel_rfl
theorem cardindexlaw15_awake.calls (ok : Okay Tryd.prog)  {w : World} {K : Value → World → Prop} (h : cardindexlaw15_awake.W  w K) : CallsV Tryd.prog 9 #[] w K :=
  fnW_calls ok Tryd.func9 (an := (.named .auto)) (args := []) (by rw [← cardindexlaw15_awake.eq]; exact h)
noncomputable def cardindexlaw15_CodeForward.W : Int → Int → Int → Option Addr → Nat → Nat → Option Addr → Nat → Nat → Option Addr → Nat → Nat → Option Addr → Nat → Nat → Option Addr → Nat → Nat →
 Option Addr → Nat → Nat → World → (Value → World → Prop) → Prop := fun (p0 p1 p2 : Int) (p3_A : Option Go.Addr) (p3_n p3_c : Nat) (p4_A : Option Go.Addr) (p4_n p4_c : Nat) (p5_A : Option Go.Addr) (p5_n
 p5_c : Nat) (p6_A : Option Go.Addr) (p6_n p6_c : Nat) (p7_A : Option Go.Addr) (p7_n p7_c : Nat) (p8_A : Option Go.Addr) (p8_n p8_c : Nat) (w : Go.World) (K : Go.Value → Go.World → Prop) => ∀ (g : Nat)
 (w' : Go.World), Go.Sx.Fresh w g w' [Go.Value.int Go.IntKind.i64 p0, Go.Value.int Go.IntKind.i64 p1, Go.Value.int Go.IntKind.i64 p2, Go.Value.slice p3_A p3_n p3_c, Go.Value.slice p4_A p4_n p4_c,
 Go.Value.slice p5_A p5_n p5_c, Go.Value.slice p6_A p6_n p6_c, Go.Value.slice p7_A p7_n p7_c, Go.Value.slice p8_A p8_n p8_c] (29 : Nat) → ∃ (x : Int), Go.World.cell? w' (Go.Addr.add (Go.Addr.mk g (0 :
 Nat) Option.none) (0 : Nat)) = Option.some (Go.Value.int Go.IntKind.i64 x) ∧ ∃ (x_1 : Int), Go.World.cell? w' (Go.Addr.add (Go.Addr.mk g (0 : Nat) Option.none) (1 : Nat)) = Option.some (Go.Value.int
 Go.IntKind.i64 x_1) ∧ ∃ (x_2 : Int), Go.World.cell? w' (Go.Addr.add (Go.Addr.mk g (0 : Nat) Option.none) (2 : Nat)) = Option.some (Go.Value.int Go.IntKind.i64 x_2) ∧ ∃ (x_3 : Option Go.Addr), ∃ (x_4 :
 Nat), ∃ (x_5 : Nat), Go.World.cell? w' (Go.Addr.add (Go.Addr.mk g (0 : Nat) Option.none) (3 : Nat)) = Option.some (Go.Value.slice x_3 x_4 x_5) ∧ ∃ (x_6 : Option Go.Addr), ∃ (x_7 : Nat), ∃ (x_8 : Nat),
 Go.World.cell? w' (Go.Addr.add (Go.Addr.mk g (0 : Nat) Option.none) (4 : Nat)) = Option.some (Go.Value.slice x_6 x_7 x_8) ∧ ∃ (x_9 : Option Go.Addr), ∃ (x_10 : Nat), ∃ (x_11 : Nat), Go.World.cell? w'
 (Go.Addr.add (Go.Addr.mk g (0 : Nat) Option.none) (5 : Nat)) = Option.some (Go.Value.slice x_9 x_10 x_11) ∧ ∃ (x_12 : Option Go.Addr), ∃ (x_13 : Nat), ∃ (x_14 : Nat), Go.World.cell? w' (Go.Addr.add
 (Go.Addr.mk g (0 : Nat) Option.none) (6 : Nat)) = Option.some (Go.Value.slice x_12 x_13 x_14) ∧ ∃ (x_15 : Option Go.Addr), ∃ (x_16 : Nat), ∃ (x_17 : Nat), Go.World.cell? w' (Go.Addr.add (Go.Addr.mk g
 (0 : Nat) Option.none) (7 : Nat)) = Option.some (Go.Value.slice x_15 x_16 x_17) ∧ ∃ (x_18 : Option Go.Addr), ∃ (x_19 : Nat), ∃ (x_20 : Nat), Go.World.cell? w' (Go.Addr.add (Go.Addr.mk g (0 : Nat)
 Option.none) (8 : Nat)) = Option.some (Go.Value.slice x_18 x_19 x_20) ∧ Go.Sx.CallsV Go.Proofs.Tryd.prog (7 : Nat) #[Go.Value.agg #[Go.Value.int Go.IntKind.i64 x, Go.Value.int Go.IntKind.i64 x_1,
 Go.Value.int Go.IntKind.i64 x_2, Go.Value.slice x_3 x_4 x_5, Go.Value.slice x_6 x_7 x_8, Go.Value.slice x_9 x_10 x_11, Go.Value.slice x_12 x_13 x_14, Go.Value.slice x_15 x_16 x_17, Go.Value.slice x_18
 x_19 x_20]] w' fun (v : Go.Value) (w' : Go.World) => ∃ (x : Bool), v = Go.Value.bool x ∧ bif x then Go.Sx.CallsV Go.Proofs.Tryd.prog (9 : Nat) #[] w' fun (v : Go.Value) (w' : Go.World) => ∃ (x : Bool),
 v = Go.Value.bool x ∧ K (Go.Value.bool x) w' else ∃ (x : Int), Go.World.cell? w' (Go.Addr.add (Go.Addr.mk g (0 : Nat) Option.none) (0 : Nat)) = Option.some (Go.Value.int Go.IntKind.i64 x) ∧ ∃ (x_21 :
 Int), Go.World.cell? w' (Go.Addr.add (Go.Addr.mk g (0 : Nat) Option.none) (1 : Nat)) = Option.some (Go.Value.int Go.IntKind.i64 x_21) ∧ ∃ (x_22 : Int), Go.World.cell? w' (Go.Addr.add (Go.Addr.mk g (0 :
 Nat) Option.none) (2 : Nat)) = Option.some (Go.Value.int Go.IntKind.i64 x_22) ∧ ∃ (x_23 : Option Go.Addr), ∃ (x_24 : Nat), ∃ (x_25 : Nat), Go.World.cell? w' (Go.Addr.add (Go.Addr.mk g (0 : Nat)
 Option.none) (3 : Nat)) = Option.some (Go.Value.slice x_23 x_24 x_25) ∧ ∃ (x_26 : Option Go.Addr), ∃ (x_27 : Nat), ∃ (x_28 : Nat), Go.World.cell? w' (Go.Addr.add (Go.Addr.mk g (0 : Nat) Option.none) (4
 : Nat)) = Option.some (Go.Value.slice x_26 x_27 x_28) ∧ ∃ (x_29 : Option Go.Addr), ∃ (x_30 : Nat), ∃ (x_31 : Nat), Go.World.cell? w' (Go.Addr.add (Go.Addr.mk g (0 : Nat) Option.none) (5 : Nat)) =
 Option.some (Go.Value.slice x_29 x_30 x_31) ∧ ∃ (x_32 : Option Go.Addr), ∃ (x_33 : Nat), ∃ (x_34 : Nat), Go.World.cell? w' (Go.Addr.add (Go.Addr.mk g (0 : Nat) Option.none) (6 : Nat)) = Option.some
 (Go.Value.slice x_32 x_33 x_34) ∧ ∃ (x_35 : Option Go.Addr), ∃ (x_36 : Nat), ∃ (x_37 : Nat), Go.World.cell? w' (Go.Addr.add (Go.Addr.mk g (0 : Nat) Option.none) (7 : Nat)) = Option.some (Go.Value.slice
 x_35 x_36 x_37) ∧ ∃ (x_38 : Option Go.Addr), ∃ (x_39 : Nat), ∃ (x_40 : Nat), Go.World.cell? w' (Go.Addr.add (Go.Addr.mk g (0 : Nat) Option.none) (8 : Nat)) = Option.some (Go.Value.slice x_38 x_39 x_40)
 ∧ Go.Sx.CallsV Go.Proofs.Tryd.prog (8 : Nat) #[Go.Value.agg #[Go.Value.int Go.IntKind.i64 x, Go.Value.int Go.IntKind.i64 x_21, Go.Value.int Go.IntKind.i64 x_22, Go.Value.slice x_23 x_24 x_25,
 Go.Value.slice x_26 x_27 x_28, Go.Value.slice x_29 x_30 x_31, Go.Value.slice x_32 x_33 x_34, Go.Value.slice x_35 x_36 x_37, Go.Value.slice x_38 x_39 x_40]] w' fun (v : Go.Value) (w' : Go.World) => ∃ (x
 : Int), v = Go.Value.int Go.IntKind.i64 x ∧ bif !Decidable.decide (x = (0 : Int)) then Go.Sx.CallsV Go.Proofs.Tryd.prog (9 : Nat) #[] w' fun (v : Go.Value) (w' : Go.World) => ∃ (x : Bool), v =
 Go.Value.bool x ∧ K (Go.Value.bool x) w' else ∃ (x : Option Go.Addr), ∃ (x_41 : Nat), ∃ (x_42 : Nat), Go.World.cell? w' (Go.Addr.add (Go.Addr.mk g (0 : Nat) Option.none) (8 : Nat)) = Option.some
 (Go.Value.slice x x_41 x_42) ∧ ∃ (I : Int → Go.World → Prop), ∃ (μ : Int → Go.World → Nat), I (0 : Int) w' ∧ ∀ (x_43 : Int) (w : Go.World), I x_43 w → bif Decidable.decide (x_43 < (↑x_41 : Int)) then ∃
 (J : Go.World → Prop), (∀ (w_1 : Go.World), J w_1 → I (Go.IntKind.wrap Go.IntKind.i64 (x_43 + (1 : Int))) w_1 ∧ μ (Go.IntKind.wrap Go.IntKind.i64 (x_43 + (1 : Int))) w_1 < μ x_43 w) ∧ ∃ (ad : Go.Addr),
 x = Option.some ad ∧ ((0 : Int) ≤ x_43 ∧ x_43 < (↑x_41 : Int)) ∧ ∃ (x : Int), Go.World.cell? w (Go.Addr.add (Go.Addr.add ad (Int.toNat x_43 * (5 : Nat))) (0 : Nat)) = Option.some (Go.Value.int
 Go.IntKind.u8 x) ∧ ∃ (x_44 : Int), Go.World.cell? w (Go.Addr.add (Go.Addr.add ad (Int.toNat x_43 * (5 : Nat))) (1 : Nat)) = Option.some (Go.Value.int Go.IntKind.i64 x_44) ∧ ∃ (x_45 : Int),
 Go.World.cell? w (Go.Addr.add (Go.Addr.add ad (Int.toNat x_43 * (5 : Nat))) (2 : Nat)) = Option.some (Go.Value.int Go.IntKind.i64 x_45) ∧ ∃ (x_46 : Int), Go.World.cell? w (Go.Addr.add (Go.Addr.add ad
 (Int.toNat x_43 * (5 : Nat))) (3 : Nat)) = Option.some (Go.Value.int Go.IntKind.i64 x_46) ∧ ∃ (x_47 : Int), Go.World.cell? w (Go.Addr.add (Go.Addr.add ad (Int.toNat x_43 * (5 : Nat))) (4 : Nat)) =
 Option.some (Go.Value.int Go.IntKind.i64 x_47) ∧ ∀ (g_1 : Nat) (w' : Go.World), Go.Sx.Fresh w g_1 w' [Go.Value.int Go.IntKind.u8 (0 : Int), Go.Value.int Go.IntKind.i64 (0 : Int), Go.Value.int
 Go.IntKind.i64 (0 : Int), Go.Value.int Go.IntKind.i64 (0 : Int), Go.Value.int Go.IntKind.i64 (0 : Int)] (38 : Nat) → Go.Sx.stOK (Go.Addr.mk g_1 (0 : Nat) Option.none) (0 : Nat) [Go.Value.int
 Go.IntKind.u8 x, Go.Value.int Go.IntKind.i64 x_44, Go.Value.int Go.IntKind.i64 x_45, Go.Value.int Go.IntKind.i64 x_46, Go.Value.int Go.IntKind.i64 x_47] w' ∧ ∀ (w'_1 : Go.World), w'_1 = Go.Sx.setAll
 (Go.Addr.mk g_1 (0 : Nat) Option.none) (0 : Nat) [Go.Value.int Go.IntKind.u8 x, Go.Value.int Go.IntKind.i64 x_44, Go.Value.int Go.IntKind.i64 x_45, Go.Value.int Go.IntKind.i64 x_46, Go.Value.int
 Go.IntKind.i64 x_47] w' → ∃ (J_1 : Int → Go.World → Prop), (∀ (x : Int) (w : Go.World), J_1 x w → bif Decidable.decide (x ≤ x_43) then K (Go.Value.bool Bool.false) w else ∃ (x_48 : Option Go.Addr), ∃
 (x_49 : Nat), ∃ (x_50 : Nat), Go.World.cell? w (Go.Addr.add (Go.Addr.mk g (0 : Nat) Option.none) (8 : Nat)) = Option.some (Go.Value.slice x_48 x_49 x_50) ∧ bif Decidable.decide ((↑x_49 : Int) ≤ x) then
 K (Go.Value.bool Bool.false) w else J w) ∧ ∃ (x : Int), Go.World.cell? w'_1 (Go.Addr.add (Go.Addr.mk g_1 (0 : Nat) Option.none) (0 : Nat)) = Option.some (Go.Value.int Go.IntKind.u8 x) ∧ ∃ (J_2 : Bool →
 Go.World → Prop), (∀ (x_48 : Bool) (w : Go.World), J_2 x_48 w → bif x_48 then ∃ (x : Int), Go.World.cell? w (Go.Addr.add (Go.Addr.mk g_1 (0 : Nat) Option.none) (1 : Nat)) = Option.some (Go.Value.int
 Go.IntKind.i64 x) ∧ J_1 x w else ∃ (J_3 : Bool → Go.World → Prop), (∀ (x_49 : Bool) (w : Go.World), J_3 x_49 w → bif x_49 then ∃ (x : Int), Go.World.cell? w (Go.Addr.add (Go.Addr.mk g_1 (0 : Nat)
 Option.none) (2 : Nat)) = Option.some (Go.Value.int Go.IntKind.i64 x) ∧ J_1 x w else bif Decidable.decide (x = (15 : Int)) then bif Decidable.decide (x = (15 : Int)) then ∃ (x : Int), Go.World.cell? w
 (Go.Addr.add (Go.Addr.mk g_1 (0 : Nat) Option.none) (2 : Nat)) = Option.some (Go.Value.int Go.IntKind.i64 x) ∧ bif Decidable.decide (x < (1 : Int)) then K (Go.Value.bool Bool.false) w else ∃ (x : Int),
 Go.World.cell? w (Go.Addr.add (Go.Addr.mk g_1 (0 : Nat) Option.none) (2 : Nat)) = Option.some (Go.Value.int Go.IntKind.i64 x) ∧ bif Decidable.decide (x_43 < x) then K (Go.Value.bool Bool.false) w else
 J_1 (Go.IntKind.wrap Go.IntKind.i64 (x_43 + (1 : Int))) w else bif Decidable.decide (x = (35 : Int)) then J w else J_1 (Go.IntKind.wrap Go.IntKind.i64 (x_43 + (1 : Int))) w else bif Decidable.decide (x
 = (22 : Int)) then ∃ (x : Int), Go.World.cell? w (Go.Addr.add (Go.Addr.mk g_1 (0 : Nat) Option.none) (2 : Nat)) = Option.some (Go.Value.int Go.IntKind.i64 x) ∧ bif Decidable.decide (x < (1 : Int)) then
 K (Go.Value.bool Bool.false) w else ∃ (x : Int), Go.World.cell? w (Go.Addr.add (Go.Addr.mk g_1 (0 : Nat) Option.none) (2 : Nat)) = Option.some (Go.Value.int Go.IntKind.i64 x) ∧ bif Decidable.decide
 (x_43 < x) then K (Go.Value.bool Bool.false) w else J_1 (Go.IntKind.wrap Go.IntKind.i64 (x_43 + (1 : Int))) w else bif Decidable.decide (x = (35 : Int)) then J w else J_1 (Go.IntKind.wrap
 Go.IntKind.i64 (x_43 + (1 : Int))) w) ∧ bif Decidable.decide (x = (13 : Int)) then J_3 (Decidable.decide (x = (13 : Int))) w else bif Decidable.decide (x = (14 : Int)) then J_3 (Decidable.decide (x =
 (14 : Int))) w else bif Decidable.decide (x = (16 : Int)) then J_3 (Decidable.decide (x = (16 : Int))) w else bif Decidable.decide (x = (17 : Int)) then J_3 (Decidable.decide (x = (17 : Int))) w else
 J_3 (Decidable.decide (x = (21 : Int))) w) ∧ bif Decidable.decide (x = (10 : Int)) then J_2 (Decidable.decide (x = (10 : Int))) w'_1 else bif Decidable.decide (x = (11 : Int)) then J_2
 (Decidable.decide (x = (11 : Int))) w'_1 else J_2 (Decidable.decide (x = (12 : Int))) w'_1 else ∃ (x : Option Go.Addr), ∃ (x_44 : Nat), ∃ (x_45 : Nat), Go.World.cell? w (Go.Addr.add (Go.Addr.mk g (0 :
 Nat) Option.none) (8 : Nat)) = Option.some (Go.Value.slice x x_44 x_45) ∧ ∃ (x_46 : Option Go.Addr), ∃ (x_47 : Nat), ∃ (x_48 : Nat), Go.World.cell? w (Go.Addr.add (Go.Addr.mk g (0 : Nat) Option.none)
 (8 : Nat)) = Option.some (Go.Value.slice x_46 x_47 x_48) ∧ ∃ (ad : Go.Addr), x = Option.some ad ∧ ((0 : Int) ≤ Go.IntKind.wrap Go.IntKind.i64 ((↑x_47 : Int) - (1 : Int)) ∧ Go.IntKind.wrap
 Go.IntKind.i64 ((↑x_47 : Int) - (1 : Int)) < (↑x_44 : Int)) ∧ ∃ (x : Int), Go.World.cell? w (Go.Addr.add (Go.Addr.add ad (Int.toNat (Go.IntKind.wrap Go.IntKind.i64 ((↑x_47 : Int) - (1 : Int))) * (5 :
 Nat))) (0 : Nat)) = Option.some (Go.Value.int Go.IntKind.u8 x) ∧ bif Decidable.decide (x = (35 : Int)) then Go.Sx.CallsV Go.Proofs.Tryd.prog (9 : Nat) #[] w fun (v : Go.Value) (w' : Go.World) => ∃ (x :
 Bool), v = Go.Value.bool x ∧ K (Go.Value.bool x) w' else K (Go.Value.bool Bool.false) w
theorem cardindexlaw15_CodeForward.eq (p0 : Int) (p1 : Int) (p2 : Int) (p3_A : Option Addr) (p3_n : Nat) (p3_c : Nat) (p4_A : Option Addr) (p4_n : Nat) (p4_c : Nat) (p5_A : Option Addr) (p5_n : Nat) (p5_c : Nat) (p6_A : Option Addr) (p6_n : Nat) (p6_c : Nat) (p7_A : Option Addr) (p7_n : Nat) (p7_c : Nat) (p8_A : Option Addr) (p8_n : Nat) (p8_c : Nat) (w : World) (K : Value → World → Prop) : cardindexlaw15_CodeForward.W p0 p1 p2 p3_A p3_n p3_c p4_A p4_n p4_c p5_A p5_n p5_c p6_A p6_n p6_c p7_A p7_n p7_c p8_A p8_n p8_c w K = fnW Tryd.prog Tryd.f4 (.named (.seq .auto (.seq .auto (.seq (.seq .auto (.block (.loop [(17, .one (.int .i64))] (.seq .auto (.seq .auto (.join [] (.block (.seq .auto (.seq .auto (.join [(5, .one (.int .i64))] (.seq .auto (.block (.join [(26, .one .bool)] .auto (.cond .auto (.join [(32, .one .bool)] .auto .auto))))) .auto)))) .auto)))))) .auto)))) [.agg #[.int .i64 p0, .int .i64 p1, .int .i64 p2, .slice p3_A p3_n p3_c, .slice p4_A p4_n p4_c, .slice p5_A p5_n p5_c, .slice p6_A p6_n p6_c, .slice p7_A p7_n p7_c, .slice p8_A p8_n p8_c]] w K := by kernel_rfl
theorem cardindexlaw15_CodeForward.calls (ok : Okay Tryd.prog) {p0 : Int} {p1 : Int} {p2 : Int} {p3_A : Option Addr} {p3_n : Nat} {p3_c : Nat} {p4_A : Option Addr} {p4_n : Nat} {p4_c : Nat} {p5_A : Option Addr} {p5_n : Nat} {p5_c : Nat} {p6_A : Option Addr} {p6_n : Nat} {p6_c : Nat} {p7_A : Option Addr} {p7_n : Nat} {p7_c : Nat} {p8_A : Option Addr} {p8_n : Nat} {p8_c : Nat} {w : World} {K : Value → World → Prop} (h : cardindexlaw15_CodeForward.W p0 p1 p2 p3_A p3_n p3_c p4_A p4_n p4_c p5_A p5_n p5_c p6_A p6_n p6_c p7_A p7_n p7_c p8_A p8_n p8_c w K) : CallsV Tryd.prog 4 #[.agg #[.int .i64 p0, .int .i64 p1, .int .i64 p2, .slice p3_A p3_n p3_c, .slice p4_A p4_n p4_c, .slice p5_A p5_n p5_c, .slice p6_A p6_n p6_c, .slice p7_A p7_n p7_c, .slice p8_A p8_n p8_c]] w K :=
  fnW_calls ok Tryd.func4 (an := (.named (.seq .auto (.seq .auto (.seq (.seq .auto (.block (.loop [(17, .one (.int .i64))] (.seq .auto (.seq .auto (.join [] (.block (.seq .auto (.seq .auto (.join [(5, .one (.int .i64))] (.seq .auto (.block (.join [(26, .one .bool)] .auto (.cond .auto (.join [(32, .one .bool)] .auto .auto))))) .auto)))) .auto)))))) .auto))))) (args := [.agg #[.int .i64 p0, .int .i64 p1, .int .i64 p2, .slice p3_A p3_n p3_c, .slice p4_A p4_n p4_c, .slice p5_A p5_n p5_c, .slice p6_A p6_n p6_c, .slice p7_A p7_n p7_c, .slice p8_A p8_n p8_c]]) (by rw [← cardindexlaw15_CodeForward.eq]; exact h)
noncomputable def cardindexlaw15_CodeEnds.W : Int → Int → Int → Option Addr → Nat → Nat → Option Addr → Nat → Nat → Option Addr → Nat → Nat → Option Addr → Nat → Nat → Option Addr → Nat → Nat → Option
 Addr → Nat → Nat → Int → Int → World → (Value → World → Prop) → Prop := fun (p0 p1 p2 : Int) (p3_A : Option Go.Addr) (p3_n p3_c : Nat) (p4_A : Option Go.Addr) (p4_n p4_c : Nat) (p5_A : Option Go.Addr)
 (p5_n p5_c : Nat) (p6_A : Option Go.Addr) (p6_n p6_c : Nat) (p7_A : Option Go.Addr) (p7_n p7_c : Nat) (p8_A : Option Go.Addr) (p8_n p8_c : Nat) (atx field : Int) (w : Go.World) (K : Go.Value → Go.World
 → Prop) => ∀ (g : Nat) (w' : Go.World), Go.Sx.Fresh w g w' [Go.Value.int Go.IntKind.i64 p0, Go.Value.int Go.IntKind.i64 p1, Go.Value.int Go.IntKind.i64 p2, Go.Value.slice p3_A p3_n p3_c, Go.Value.slice
 p4_A p4_n p4_c, Go.Value.slice p5_A p5_n p5_c, Go.Value.slice p6_A p6_n p6_c, Go.Value.slice p7_A p7_n p7_c, Go.Value.slice p8_A p8_n p8_c] (29 : Nat) → ∃ (x : Int), Go.World.cell? w' (Go.Addr.add
 (Go.Addr.mk g (0 : Nat) Option.none) (0 : Nat)) = Option.some (Go.Value.int Go.IntKind.i64 x) ∧ ∃ (x_1 : Int), Go.World.cell? w' (Go.Addr.add (Go.Addr.mk g (0 : Nat) Option.none) (1 : Nat)) =
 Option.some (Go.Value.int Go.IntKind.i64 x_1) ∧ ∃ (x_2 : Int), Go.World.cell? w' (Go.Addr.add (Go.Addr.mk g (0 : Nat) Option.none) (2 : Nat)) = Option.some (Go.Value.int Go.IntKind.i64 x_2) ∧ ∃ (x_3 :
 Option Go.Addr), ∃ (x_4 : Nat), ∃ (x_5 : Nat), Go.World.cell? w' (Go.Addr.add (Go.Addr.mk g (0 : Nat) Option.none) (3 : Nat)) = Option.some (Go.Value.slice x_3 x_4 x_5) ∧ ∃ (x_6 : Option Go.Addr), ∃
 (x_7 : Nat), ∃ (x_8 : Nat), Go.World.cell? w' (Go.Addr.add (Go.Addr.mk g (0 : Nat) Option.none) (4 : Nat)) = Option.some (Go.Value.slice x_6 x_7 x_8) ∧ ∃ (x_9 : Option Go.Addr), ∃ (x_10 : Nat), ∃ (x_11
 : Nat), Go.World.cell? w' (Go.Addr.add (Go.Addr.mk g (0 : Nat) Option.none) (5 : Nat)) = Option.some (Go.Value.slice x_9 x_10 x_11) ∧ ∃ (x_12 : Option Go.Addr), ∃ (x_13 : Nat), ∃ (x_14 : Nat),
 Go.World.cell? w' (Go.Addr.add (Go.Addr.mk g (0 : Nat) Option.none) (6 : Nat)) = Option.some (Go.Value.slice x_12 x_13 x_14) ∧ ∃ (x_15 : Option Go.Addr), ∃ (x_16 : Nat), ∃ (x_17 : Nat), Go.World.cell?
 w' (Go.Addr.add (Go.Addr.mk g (0 : Nat) Option.none) (7 : Nat)) = Option.some (Go.Value.slice x_15 x_16 x_17) ∧ ∃ (x_18 : Option Go.Addr), ∃ (x_19 : Nat), ∃ (x_20 : Nat), Go.World.cell? w' (Go.Addr.add
 (Go.Addr.mk g (0 : Nat) Option.none) (8 : Nat)) = Option.some (Go.Value.slice x_18 x_19 x_20) ∧ Go.Sx.CallsV Go.Proofs.Tryd.prog (7 : Nat) #[Go.Value.agg #[Go.Value.int Go.IntKind.i64 x, Go.Value.int
 Go.IntKind.i64 x_1, Go.Value.int Go.IntKind.i64 x_2, Go.Value.slice x_3 x_4 x_5, Go.Value.slice x_6 x_7 x_8, Go.Value.slice x_9 x_10 x_11, Go.Value.slice x_12 x_13 x_14, Go.Value.slice x_15 x_16 x_17,
 Go.Value.slice x_18 x_19 x_20]] w' fun (v : Go.Value) (w' : Go.World) => ∃ (x : Bool), v = Go.Value.bool x ∧ bif x then Go.Sx.CallsV Go.Proofs.Tryd.prog (9 : Nat) #[] w' fun (v : Go.Value) (w' :
 Go.World) => ∃ (x : Bool), v = Go.Value.bool x ∧ K (Go.Value.bool x) w' else ∃ (x : Int), Go.World.cell? w' (Go.Addr.add (Go.Addr.mk g (0 : Nat) Option.none) (0 : Nat)) = Option.some (Go.Value.int
 Go.IntKind.i64 x) ∧ ∃ (x_21 : Int), Go.World.cell? w' (Go.Addr.add (Go.Addr.mk g (0 : Nat) Option.none) (1 : Nat)) = Option.some (Go.Value.int Go.IntKind.i64 x_21) ∧ ∃ (x_22 : Int), Go.World.cell? w'
 (Go.Addr.add (Go.Addr.mk g (0 : Nat) Option.none) (2 : Nat)) = Option.some (Go.Value.int Go.IntKind.i64 x_22) ∧ ∃ (x_23 : Option Go.Addr), ∃ (x_24 : Nat), ∃ (x_25 : Nat), Go.World.cell? w' (Go.Addr.add
 (Go.Addr.mk g (0 : Nat) Option.none) (3 : Nat)) = Option.some (Go.Value.slice x_23 x_24 x_25) ∧ ∃ (x_26 : Option Go.Addr), ∃ (x_27 : Nat), ∃ (x_28 : Nat), Go.World.cell? w' (Go.Addr.add (Go.Addr.mk g
 (0 : Nat) Option.none) (4 : Nat)) = Option.some (Go.Value.slice x_26 x_27 x_28) ∧ ∃ (x_29 : Option Go.Addr), ∃ (x_30 : Nat), ∃ (x_31 : Nat), Go.World.cell? w' (Go.Addr.add (Go.Addr.mk g (0 : Nat)
 Option.none) (5 : Nat)) = Option.some (Go.Value.slice x_29 x_30 x_31) ∧ ∃ (x_32 : Option Go.Addr), ∃ (x_33 : Nat), ∃ (x_34 : Nat), Go.World.cell? w' (Go.Addr.add (Go.Addr.mk g (0 : Nat) Option.none) (6
 : Nat)) = Option.some (Go.Value.slice x_32 x_33 x_34) ∧ ∃ (x_35 : Option Go.Addr), ∃ (x_36 : Nat), ∃ (x_37 : Nat), Go.World.cell? w' (Go.Addr.add (Go.Addr.mk g (0 : Nat) Option.none) (7 : Nat)) =
 Option.some (Go.Value.slice x_35 x_36 x_37) ∧ ∃ (x_38 : Option Go.Addr), ∃ (x_39 : Nat), ∃ (x_40 : Nat), Go.World.cell? w' (Go.Addr.add (Go.Addr.mk g (0 : Nat) Option.none) (8 : Nat)) = Option.some
 (Go.Value.slice x_38 x_39 x_40) ∧ Go.Sx.CallsV Go.Proofs.Tryd.prog (8 : Nat) #[Go.Value.agg #[Go.Value.int Go.IntKind.i64 x, Go.Value.int Go.IntKind.i64 x_21, Go.Value.int Go.IntKind.i64 x_22,
 Go.Value.slice x_23 x_24 x_25, Go.Value.slice x_26 x_27 x_28, Go.Value.slice x_29 x_30 x_31, Go.Value.slice x_32 x_33 x_34, Go.Value.slice x_35 x_36 x_37, Go.Value.slice x_38 x_39 x_40]] w' fun (v :
 Go.Value) (w' : Go.World) => ∃ (x : Int), v = Go.Value.int Go.IntKind.i64 x ∧ bif !Decidable.decide (x = (0 : Int)) then Go.Sx.CallsV Go.Proofs.Tryd.prog (9 : Nat) #[] w' fun (v : Go.Value) (w' :
 Go.World) => ∃ (x : Bool), v = Go.Value.bool x ∧ K (Go.Value.bool x) w' else ∃ (x : Option Go.Addr), ∃ (x_41 : Nat), ∃ (x_42 : Nat), Go.World.cell? w' (Go.Addr.add (Go.Addr.mk g (0 : Nat) Option.none)
 (8 : Nat)) = Option.some (Go.Value.slice x x_41 x_42) ∧ Go.Sx.CallsV Go.Proofs.Tryd.prog (10 : Nat) #[Go.Value.int Go.IntKind.i64 atx, Go.Value.int Go.IntKind.i64 (↑x_41 : Int)] w' fun (v : Go.Value)
 (w' : Go.World) => ∃ (x : Int), v = Go.Value.int Go.IntKind.i64 x ∧ ∃ (x_43 : Int), Go.World.cell? w' (Go.Addr.add (Go.Addr.mk g (0 : Nat) Option.none) (0 : Nat)) = Option.some (Go.Value.int
 Go.IntKind.i64 x_43) ∧ ∃ (x_44 : Int), Go.World.cell? w' (Go.Addr.add (Go.Addr.mk g (0 : Nat) Option.none) (1 : Nat)) = Option.some (Go.Value.int Go.IntKind.i64 x_44) ∧ ∃ (x_45 : Int), Go.World.cell?
 w' (Go.Addr.add (Go.Addr.mk g (0 : Nat) Option.none) (2 : Nat)) = Option.some (Go.Value.int Go.IntKind.i64 x_45) ∧ ∃ (x_46 : Option Go.Addr), ∃ (x_47 : Nat), ∃ (x_48 : Nat), Go.World.cell? w'
 (Go.Addr.add (Go.Addr.mk g (0 : Nat) Option.none) (3 : Nat)) = Option.some (Go.Value.slice x_46 x_47 x_48) ∧ ∃ (x_49 : Option Go.Addr), ∃ (x_50 : Nat), ∃ (x_51 : Nat), Go.World.cell? w' (Go.Addr.add
 (Go.Addr.mk g (0 : Nat) Option.none) (4 : Nat)) = Option.some (Go.Value.slice x_49 x_50 x_51) ∧ ∃ (x_52 : Option Go.Addr), ∃ (x_53 : Nat), ∃ (x_54 : Nat), Go.World.cell? w' (Go.Addr.add (Go.Addr.mk g
 (0 : Nat) Option.none) (5 : Nat)) = Option.some (Go.Value.slice x_52 x_53 x_54) ∧ ∃ (x_55 : Option Go.Addr), ∃ (x_56 : Nat), ∃ (x_57 : Nat), Go.World.cell? w' (Go.Addr.add (Go.Addr.mk g (0 : Nat)
 Option.none) (6 : Nat)) = Option.some (Go.Value.slice x_55 x_56 x_57) ∧ ∃ (x_58 : Option Go.Addr), ∃ (x_59 : Nat), ∃ (x_60 : Nat), Go.World.cell? w' (Go.Addr.add (Go.Addr.mk g (0 : Nat) Option.none) (7
 : Nat)) = Option.some (Go.Value.slice x_58 x_59 x_60) ∧ ∃ (x_61 : Option Go.Addr), ∃ (x_62 : Nat), ∃ (x_63 : Nat), Go.World.cell? w' (Go.Addr.add (Go.Addr.mk g (0 : Nat) Option.none) (8 : Nat)) =
 Option.some (Go.Value.slice x_61 x_62 x_63) ∧ ∀ (g_1 : Nat) (w'_1 : Go.World), Go.Sx.Fresh w' g_1 w'_1 [Go.Value.int Go.IntKind.i64 (0 : Int), Go.Value.int Go.IntKind.i64 (0 : Int), Go.Value.int
 Go.IntKind.i64 (0 : Int), Go.Value.slice Option.none (0 : Nat) (0 : Nat), Go.Value.slice Option.none (0 : Nat) (0 : Nat), Go.Value.slice Option.none (0 : Nat) (0 : Nat), Go.Value.slice Option.none (0 :
 Nat) (0 : Nat), Go.Value.slice Option.none (0 : Nat) (0 : Nat), Go.Value.slice Option.none (0 : Nat) (0 : Nat)] (29 : Nat) → Go.Sx.stOK (Go.Addr.mk g_1 (0 : Nat) Option.none) (0 : Nat) [Go.Value.int
 Go.IntKind.i64 x_43, Go.Value.int Go.IntKind.i64 x_44, Go.Value.int Go.IntKind.i64 x_45, Go.Value.slice x_46 x_47 x_48, Go.Value.slice x_49 x_50 x_51, Go.Value.slice x_52 x_53 x_54, Go.Value.slice x_55
 x_56 x_57, Go.Value.slice x_58 x_59 x_60, Go.Value.slice x_61 x_62 x_63] w'_1 ∧ ∀ (w' : Go.World), w' = Go.Sx.setAll (Go.Addr.mk g_1 (0 : Nat) Option.none) (0 : Nat) [Go.Value.int Go.IntKind.i64 x_43,
 Go.Value.int Go.IntKind.i64 x_44, Go.Value.int Go.IntKind.i64 x_45, Go.Value.slice x_46 x_47 x_48, Go.Value.slice x_49 x_50 x_51, Go.Value.slice x_52 x_53 x_54, Go.Value.slice x_55 x_56 x_57,
 Go.Value.slice x_58 x_59 x_60, Go.Value.slice x_61 x_62 x_63] w'_1 → ∀ (g_2 : Nat) (w'_2 : Go.World), Go.Sx.Fresh w' g_2 w'_2 [] (38 : Nat) → ∃ (x_64 : Option Go.Addr), ∃ (x_65 : Nat), ∃ (x_66 : Nat),
 Go.World.cell? w'_2 (Go.Addr.add (Go.Addr.mk g (0 : Nat) Option.none) (8 : Nat)) = Option.some (Go.Value.slice x_64 x_65 x_66) ∧ ∃ (x_67 : Option Go.Addr), ∃ (x_68 : Nat), ∃ (x_69 : Nat), ∃ (w' :
 Go.World), Go.Sx.RunsTo Go.Proofs.Tryd.prog (Go.Builtin.append_ (Array.mk [(27 : Nat), (27 : Nat)]) (27 : Nat) #[Go.Value.slice (Option.some (Go.Addr.mk g_2 (0 : Nat) Option.none)) (0 : Nat) (0 : Nat),
 Go.Value.slice x_64 x_65 x_66]) w'_2 (Go.Value.slice x_67 x_68 x_69) w' ∧ Go.Sx.stOK (Go.Addr.add (Go.Addr.mk g_1 (0 : Nat) Option.none) (8 : Nat)) (0 : Nat) [Go.Value.slice x_67 x_68 x_69] w' ∧ ∀
 (w'_3 : Go.World), w'_3 = Go.Sx.setAll (Go.Addr.add (Go.Addr.mk g_1 (0 : Nat) Option.none) (8 : Nat)) (0 : Nat) [Go.Value.slice x_67 x_68 x_69] w' → ∃ (x_70 : Option Go.Addr), ∃ (x_71 : Nat), ∃ (x_72 :
 Nat), Go.World.cell? w'_3 (Go.Addr.add (Go.Addr.mk g_1 (0 : Nat) Option.none) (8 : Nat)) = Option.some (Go.Value.slice x_70 x_71 x_72) ∧ ∃ (ad : Go.Addr), x_70 = Option.some ad ∧ ((0 : Int) ≤ x ∧ x <
 (↑x_71 : Int)) ∧ ∃ (J : Int → Go.World → Prop), (∀ (x_73 : Int) (w : Go.World), J x_73 w → ∃ (J : Go.World → Prop), (∀ (w : Go.World), J w → ∃ (x : Int), Go.World.cell? w (Go.Addr.add (Go.Addr.mk g_1
 (0 : Nat) Option.none) (0 : Nat)) = Option.some (Go.Value.int Go.IntKind.i64 x) ∧ ∃ (x_74 : Int), Go.World.cell? w (Go.Addr.add (Go.Addr.mk g_1 (0 : Nat) Option.none) (1 : Nat)) = Option.some
 (Go.Value.int Go.IntKind.i64 x_74) ∧ ∃ (x_75 : Int), Go.World.cell? w (Go.Addr.add (Go.Addr.mk g_1 (0 : Nat) Option.none) (2 : Nat)) = Option.some (Go.Value.int Go.IntKind.i64 x_75) ∧ ∃ (x_76 : Option
 Go.Addr), ∃ (x_77 : Nat), ∃ (x_78 : Nat), Go.World.cell? w (Go.Addr.add (Go.Addr.mk g_1 (0 : Nat) Option.none) (3 : Nat)) = Option.some (Go.Value.slice x_76 x_77 x_78) ∧ ∃ (x_79 : Option Go.Addr), ∃
 (x_80 : Nat), ∃ (x_81 : Nat), Go.World.cell? w (Go.Addr.add (Go.Addr.mk g_1 (0 : Nat) Option.none) (4 : Nat)) = Option.some (Go.Value.slice x_79 x_80 x_81) ∧ ∃ (x_82 : Option Go.Addr), ∃ (x_83 : Nat),
 ∃ (x_84 : Nat), Go.World.cell? w (Go.Addr.add (Go.Addr.mk g_1 (0 : Nat) Option.none) (5 : Nat)) = Option.some (Go.Value.slice x_82 x_83 x_84) ∧ ∃ (x_85 : Option Go.Addr), ∃ (x_86 : Nat), ∃ (x_87 :
 Nat), Go.World.cell? w (Go.Addr.add (Go.Addr.mk g_1 (0 : Nat) Option.none) (6 : Nat)) = Option.some (Go.Value.slice x_85 x_86 x_87) ∧ ∃ (x_88 : Option Go.Addr), ∃ (x_89 : Nat), ∃ (x_90 : Nat),
 Go.World.cell? w (Go.Addr.add (Go.Addr.mk g_1 (0 : Nat) Option.none) (7 : Nat)) = Option.some (Go.Value.slice x_88 x_89 x_90) ∧ ∃ (x_91 : Option Go.Addr), ∃ (x_92 : Nat), ∃ (x_93 : Nat), Go.World.cell?
 w (Go.Addr.add (Go.Addr.mk g_1 (0 : Nat) Option.none) (8 : Nat)) = Option.some (Go.Value.slice x_91 x_92 x_93) ∧ Go.Sx.CallsV Go.Proofs.Tryd.prog (8 : Nat) #[Go.Value.agg #[Go.Value.int Go.IntKind.i64
 x, Go.Value.int Go.IntKind.i64 x_74, Go.Value.int Go.IntKind.i64 x_75, Go.Value.slice x_76 x_77 x_78, Go.Value.slice x_79 x_80 x_81, Go.Value.slice x_82 x_83 x_84, Go.Value.slice x_85 x_86 x_87,
 Go.Value.slice x_88 x_89 x_90, Go.Value.slice x_91 x_92 x_93]] w fun (v : Go.Value) (w' : Go.World) => ∃ (x : Int), v = Go.Value.int Go.IntKind.i64 x ∧ bif Decidable.decide (x = (140 : Int)) then
 Go.Sx.CallsV Go.Proofs.Tryd.prog (9 : Nat) #[] w' fun (v : Go.Value) (w' : Go.World) => ∃ (x : Bool), v = Go.Value.bool x ∧ K (Go.Value.bool x) w' else K (Go.Value.bool Bool.false) w') ∧ Go.Sx.CallsV
 Go.Proofs.Tryd.prog (10 : Nat) #[Go.Value.int Go.IntKind.i64 field, Go.Value.int Go.IntKind.i64 (4 : Int)] w fun (v : Go.Value) (w' : Go.World) => ∃ (x_74 : Int), v = Go.Value.int Go.IntKind.i64 x_74 ∧
 bif Decidable.decide (x_74 = (0 : Int)) then ∃ (a : Go.Addr), Option.some (Go.Addr.add ad (Int.toNat x * (5 : Nat))) = Option.some a ∧ Go.Sx.stOK (Go.Addr.add a (1 : Nat)) (0 : Nat) [Go.Value.int
 Go.IntKind.i64 x_73] w' ∧ ∀ (w'_4 : Go.World), w'_4 = Go.Sx.setAll (Go.Addr.add a (1 : Nat)) (0 : Nat) [Go.Value.int Go.IntKind.i64 x_73] w' → J w'_4 else bif Decidable.decide (x_74 = (1 : Int)) then ∃
 (a : Go.Addr), Option.some (Go.Addr.add ad (Int.toNat x * (5 : Nat))) = Option.some a ∧ Go.Sx.stOK (Go.Addr.add a (2 : Nat)) (0 : Nat) [Go.Value.int Go.IntKind.i64 x_73] w' ∧ ∀ (w'_4 : Go.World), w'_4
 = Go.Sx.setAll (Go.Addr.add a (2 : Nat)) (0 : Nat) [Go.Value.int Go.IntKind.i64 x_73] w' → J w'_4 else bif Decidable.decide (x_74 = (2 : Int)) then ∃ (a : Go.Addr), Option.some (Go.Addr.add ad
 (Int.toNat x * (5 : Nat))) = Option.some a ∧ Go.Sx.stOK (Go.Addr.add a (3 : Nat)) (0 : Nat) [Go.Value.int Go.IntKind.i64 x_73] w' ∧ ∀ (w'_4 : Go.World), w'_4 = Go.Sx.setAll (Go.Addr.add a (3 : Nat)) (0
 : Nat) [Go.Value.int Go.IntKind.i64 x_73] w' → J w'_4 else ∃ (a : Go.Addr), Option.some (Go.Addr.add ad (Int.toNat x * (5 : Nat))) = Option.some a ∧ Go.Sx.stOK (Go.Addr.add a (4 : Nat)) (0 : Nat)
 [Go.Value.int Go.IntKind.i64 x_73] w' ∧ ∀ (w'_4 : Go.World), w'_4 = Go.Sx.setAll (Go.Addr.add a (4 : Nat)) (0 : Nat) [Go.Value.int Go.IntKind.i64 x_73] w' → J w'_4) ∧ Go.Sx.CallsV Go.Proofs.Tryd.prog
 (10 : Nat) #[Go.Value.int Go.IntKind.i64 field, Go.Value.int Go.IntKind.i64 (8 : Int)] w'_3 fun (v : Go.Value) (w' : Go.World) => ∃ (x : Int), v = Go.Value.int Go.IntKind.i64 x ∧ bif Decidable.decide
 ((4 : Int) ≤ x) then J (-1 : Int) w' else J (1073741824 : Int) w'
theorem cardindexlaw15_CodeEnds.eq (p0 : Int) (p1 : Int) (p2 : Int) (p3_A : Option Addr) (p3_n : Nat) (p3_c : Nat) (p4_A : Option Addr) (p4_n : Nat) (p4_c : Nat) (p5_A : Option Addr) (p5_n : Nat) (p5_c : Nat) (p6_A : Option Addr) (p6_n : Nat) (p6_c : Nat) (p7_A : Option Addr) (p7_n : Nat) (p7_c : Nat) (p8_A : Option Addr) (p8_n : Nat) (p8_c : Nat) (atx : Int) (field : Int) (w : World) (K : Value → World → Prop) : cardindexlaw15_CodeEnds.W p0 p1 p2 p3_A p3_n p3_c p4_A p4_n p4_c p5_A p5_n p5_c p6_A p6_n p6_c p7_A p7_n p7_c p8_A p8_n p8_c atx field w K = fnW Tryd.prog Tryd.f3 (.named (.seq .auto (.seq .auto (.seq .auto (.seq .auto (.seq .auto (.seq .auto (.seq .auto (.join [(10, .one (.int .i64))] .auto (.join [] .auto .auto)))))))))) [.agg #[.int .i64 p0, .int .i64 p1, .int .i64 p2, .slice p3_A p3_n p3_c, .slice p4_A p4_n p4_c, .slice p5_A p5_n p5_c, .slice p6_A p6_n p6_c, .slice p7_A p7_n p7_c, .slice p8_A p8_n p8_c], .int .i64 atx, .int .i64 field] w K := by kernel_rfl
theorem cardindexlaw15_CodeEnds.calls (ok : Okay Tryd.prog) {p0 : Int} {p1 : Int} {p2 : Int} {p3_A : Option Addr} {p3_n : Nat} {p3_c : Nat} {p4_A : Option Addr} {p4_n : Nat} {p4_c : Nat} {p5_A : Option Addr} {p5_n : Nat} {p5_c : Nat} {p6_A : Option Addr} {p6_n : Nat} {p6_c : Nat} {p7_A : Option Addr} {p7_n : Nat} {p7_c : Nat} {p8_A : Option Addr} {p8_n : Nat} {p8_c : Nat} {atx : Int} {field : Int} {w : World} {K : Value → World → Prop} (h : cardindexlaw15_CodeEnds.W p0 p1 p2 p3_A p3_n p3_c p4_A p4_n p4_c p5_A p5_n p5_c p6_A p6_n p6_c p7_A p7_n p7_c p8_A p8_n p8_c atx field w K) : CallsV Tryd.prog 3 #[.agg #[.int .i64 p0, .int .i64 p1, .int .i64 p2, .slice p3_A p3_n p3_c, .slice p4_A p4_n p4_c, .slice p5_A p5_n p5_c, .slice p6_A p6_n p6_c, .slice p7_A p7_n p7_c, .slice p8_A p8_n p8_c], .int .i64 atx, .int .i64 field] w K :=
  fnW_calls ok Tryd.func3 (an := (.named (.seq .auto (.seq .auto (.seq .auto (.seq .auto (.seq .auto (.seq .auto (.seq .auto (.join [(10, .one (.int .i64))] .auto (.join [] .auto .auto))))))))))) (args := [.agg #[.int .i64 p0, .int .i64 p1, .int .i64 p2, .slice p3_A p3_n p3_c, .slice p4_A p4_n p4_c, .slice p5_A p5_n p5_c, .slice p6_A p6_n p6_c, .slice p7_A p7_n p7_c, .slice p8_A p8_n p8_c], .int .i64 atx, .int .i64 field]) (by rw [← cardindexlaw15_CodeEnds.eq]; exact h)
noncomputable def cardindexkit_Pick.W : Int → Int → World → (Value → World → Prop) → Prop := fun (x n : Int) (w : Go.World) (K : Go.Value → Go.World → Prop) => bif Decidable.decide (n < (1 : Int)) then
 K (Go.Value.int Go.IntKind.i64 (0 : Int)) w else n ≠ (0 : Int) ∧ bif Decidable.decide (Int.tmod x n < (0 : Int)) then K (Go.Value.int Go.IntKind.i64 (Go.IntKind.wrap Go.IntKind.i64 (Int.tmod x n + n)))
 w else K (Go.Value.int Go.IntKind.i64 (Int.tmod x n)) w
theorem cardindexkit_Pick.eq (x : Int) (n : Int) (w : World) (K : Value → World → Prop) : cardindexkit_Pick.W x n w K = fnW Tryd.prog Tryd.f10 (.named .auto) [.int .i64 x, .int .i64 n] w K := by kernel_rfl
theorem cardindexkit_Pick.calls (ok : Okay Tryd.prog) {x : Int} {n : Int} {w : World} {K : Value → World → Prop} (h : cardindexkit_Pick.W x n w K) : CallsV Tryd.prog 10 #[.int .i64 x, .int .i64 n] w K :=
  fnW_calls ok Tryd.func10 (an := (.named .auto)) (args := [.int .i64 x, .int .i64 n]) (by rw [← cardindexkit_Pick.eq]; exact h)
end Go.Proofs.YtaifphjenebgoaaDoor
/- Layer 15 (code): what an instruction has. -/
set_option linter.unusedVariables false
set_option linter.unusedSimpArgs false
namespace Go.Proofs.YtaifphjenebgoaaDoor
open Go Go.Sx R1 K15
def shapeV (l : List UInt8) : Value := .agg #[.string (bs l)]
theorem look_get (o : Int) : ∀ l : List (Int × List UInt8), (getM (l.map fun p => (p.1, shapeV p.2)) o).getD (.agg #[.string (ByteArray.mk #[])]) = shapeV (lookS l o)
  | [] => rfl
  | (k, x) :: r => by
    rw [List.map_cons, getM, lookS]
    split
    · rfl
    · exact look_get o r
theorem upd_step {kt et t : TypeId} {d : TypeDesc} {q : IntKind} (F : KeyF Tryd.prog kt d (fun a : Int => Value.int q a)) (ht : und Tryd.prog t = some (.map kt et)) {w0 w : World} {b : Nat} {l : List (Int × Value)} {a : Int} {v : Value} {Kp : World → Prop}
    (hb : w0.heap.size ≤ b) (hm : MapK (fun a : Int => Value.int q a) w b l ∧ Ext w0 w) (h : ∀ w', MapK (fun a : Int => Value.int q a) w' b (setM l a v) ∧ Ext w0 w' → Kp w') :
    ∃ w', RunsTo Tryd.prog (Instr.mapUpdate t (.map (some b)) (.int q a) v) w () w' ∧ Kp w' := by
  obtain ⟨w', hr, hm', hf⟩ := hm.1.update F ht a v
  exact ⟨w', hr, h w' ⟨hm', hm.2.trans hf (fun _ _ h => h) (fun k hk e => by omega)⟩⟩
set_option maxRecDepth 10000 in
theorem shape_spec (w : World) (o : Int) : CallsV Tryd.prog 19 #[.int .u8 o] w fun r w' => r = .string (bs (shapeP o)) ∧ Ext w w' := by
  refine code_shape.calls okay ?_
  unfold code_shape.W
  have F : KeyF Tryd.prog 36 (.int .u8) (fun a : Int => Value.int .u8 a) := keyInt (by kernel_rfl)
  have hT : und Tryd.prog 93 = some (.map 36 92) := by kernel_rfl
  refine ⟨_, _, makeMap_run _ _, ?_⟩
  have hm : MapK (fun a : Int => Value.int .u8 a) (w.alloc (.map #[] 0)) w.heap.size [] ∧ Ext w (w.alloc (.map #[] 0)) := ⟨MapK.new _ _, Fr.alloc NoB _ _⟩
  generalize w.alloc (.map #[] 0) = w1 at *
  iterate 35 (refine upd_step F hT (Nat.le_refl _) hm ?_; clear hm; intro w1 hm)
  have hl : ∀ {x}, MapK (fun a : Int => Value.int .u8 a) w1 w.heap.size x ∧ Ext w w1 → x = shapes.map (fun p => (p.1, shapeV p.2)) → MapK (fun a : Int => Value.int .u8 a) w1 w.heap.size (shapes.map fun p => (p.1, shapeV p.2)) := fun h e => by rw [← e]; exact h.1
  have hM := hl hm (by kernel_rfl)
  obtain ⟨_, hr⟩ := hM.look F hT o (z := .agg #[.string (ByteArray.mk #[])]) (fun w => by kernel_rfl)
  rw [look_get] at hr
  exact ⟨_, _, hr, rfl, hm.2⟩
end Go.Proofs.YtaifphjenebgoaaDoor
/- The preconditions of Go functions, printed by a program of this workplace (nests.py); each is proved to be the engine's own. -/
set_option linter.unusedVariables false
set_option maxRecDepth 100000
namespace Go.Proofs.YtaifphjenebgoaaDoor
open Go Go.Sx
noncomputable def code_field_2.W : Value → Addr → Addr → Addr → World → (Value → World → Prop) → Prop := fun (okx : Go.Value) (a1 a2 a3 : Go.Addr) (w : Go.World) (K : Go.Value → Go.World → Prop) =>
 Go.Sx.cellsL okx = [okx] ∧ ∀ (g : Nat) (w' : Go.World), Go.Sx.Fresh w g w' [okx] (81 : Nat) → K (Go.Value.func (Go.Fn.func (50 : Nat)) #[] #[Go.Value.pointer (Option.some a1), Go.Value.pointer
 (Option.some a2), Go.Value.pointer (Option.some (Go.Addr.mk g (0 : Nat) Option.none)), Go.Value.pointer (Option.some a3)]) w'
theorem code_field_2.eq (okx : Value) (a1 : Addr) (a2 : Addr) (a3 : Addr) (w : World) (K : Value → World → Prop) : code_field_2.W okx a1 a2 a3 w K = fnW Tryd.prog Tryd.f49 (.named (.named .auto)) [okx, .pointer (some a1), .pointer (some a2), .pointer (some a3)] w K := by kernel_rfl
theorem code_field_2.calls (ok : Okay Tryd.prog) {okx : Value} {a1 : Addr} {a2 : Addr} {a3 : Addr} {w : World} {K : Value → World → Prop} (h : code_field_2.W okx a1 a2 a3 w K) : CallsV Tryd.prog 49 #[okx, .pointer (some a1), .pointer (some a2), .pointer (some a3)] w K :=
  fnW_calls ok Tryd.func49 (an := (.named (.named .auto))) (args := [okx, .pointer (some a1), .pointer (some a2), .pointer (some a3)]) (by rw [← code_field_2.eq]; exact h)
noncomputable def code_field_2_1.W : Addr → Addr → Addr → Addr → World → (Value → World → Prop) → Prop := fun (a0 a1 a2 a3 : Go.Addr) (w : Go.World) (K : Go.Value → Go.World → Prop) => ∃ (S : Go.World
 → Prop), S (Go.World.drew w) ∧ ∃ (x : Go.Value), (∀ (u : Go.World), S u → Go.World.cell? u a0 = Option.some x) ∧ ∃ (x_1 : Option Go.Addr), ∃ (x_2 : Nat), ∃ (x_3 : Nat), (∀ (u : Go.World), S u →
 Go.World.cell? u (Go.Addr.add a1 (5 : Nat)) = Option.some (Go.Value.slice x_1 x_2 x_3)) ∧ ∃ (fid : Nat), ∃ (first : Array Go.Value), ∃ (captured : Array Go.Value), x = Go.Value.func (Go.Fn.func fid)
 first captured ∧ Go.Sx.bodied Go.Proofs.Tryd.prog fid = Bool.true ∧ Go.Sx.CallsV Go.Proofs.Tryd.prog fid (List.toArray (Array.toList first ++ ([Go.Value.int Go.IntKind.i64 (↑x_2 : Int)] ++ Array.toList
 captured))) (Go.World.drew w) fun (r : Go.Value) (w' : Go.World) => ∃ (x : Go.Value), r = x ∧ S w' ∧ ∃ (fid : Nat), ∃ (first : Array Go.Value), ∃ (captured : Array Go.Value), x = Go.Value.func
 (Go.Fn.func fid) first captured ∧ Go.Sx.bodied Go.Proofs.Tryd.prog fid = Bool.true ∧ Go.Sx.CallsV Go.Proofs.Tryd.prog fid (List.toArray (Array.toList first ++ ([] ++ Array.toList captured))) w' fun (r
 : Go.Value) (w' : Go.World) => ∃ (x : Bool), r = Go.Value.bool x ∧ S w' ∧ bif x then ∃ (S_1 : Go.World → Prop), S_1 w' ∧ ∃ (x : Go.Value), (∀ (u : Go.World), S_1 u → Go.World.cell? u a2 = Option.some
 x) ∧ ∃ (x_4 : Option Go.Addr), ∃ (x_5 : Nat), ∃ (x_6 : Nat), (∀ (u : Go.World), S_1 u → Go.World.cell? u (Go.Addr.add a1 (5 : Nat)) = Option.some (Go.Value.slice x_4 x_5 x_6)) ∧ ∃ (x_7 : Int), (∀ (u :
 Go.World), S_1 u → Go.World.cell? u a3 = Option.some (Go.Value.int Go.IntKind.i64 x_7)) ∧ ∃ (ad : Go.Addr), x_4 = Option.some ad ∧ ((0 : Int) ≤ x_7 ∧ x_7 < (↑x_5 : Int)) ∧ ∃ (x_8 : ByteArray), (∀ (u :
 Go.World), S_1 u → Go.World.cell? u (Go.Addr.add (Go.Addr.add ad (Int.toNat x_7 * (3 : Nat))) (0 : Nat)) = Option.some (Go.Value.string x_8)) ∧ ∃ (x_9 : Bool), (∀ (u : Go.World), S_1 u → Go.World.cell?
 u (Go.Addr.add (Go.Addr.add ad (Int.toNat x_7 * (3 : Nat))) (1 : Nat)) = Option.some (Go.Value.bool x_9)) ∧ ∃ (x_10 : Bool), (∀ (u : Go.World), S_1 u → Go.World.cell? u (Go.Addr.add (Go.Addr.add ad
 (Int.toNat x_7 * (3 : Nat))) (2 : Nat)) = Option.some (Go.Value.bool x_10)) ∧ ∃ (fid : Nat), ∃ (first : Array Go.Value), ∃ (captured : Array Go.Value), x = Go.Value.func (Go.Fn.func fid) first captured
 ∧ Go.Sx.bodied Go.Proofs.Tryd.prog fid = Bool.true ∧ Go.Sx.CallsV Go.Proofs.Tryd.prog fid (List.toArray (Array.toList first ++ ([Go.Value.agg #[Go.Value.string x_8, Go.Value.bool x_9, Go.Value.bool
 x_10]] ++ Array.toList captured))) w' fun (r : Go.Value) (w' : Go.World) => ∃ (x : Bool), r = Go.Value.bool x ∧ S_1 w' ∧ S w' ∧ K (Go.Value.bool x) w' else K (Go.Value.bool Bool.false) w'
theorem code_field_2_1.eq (a0 : Addr) (a1 : Addr) (a2 : Addr) (a3 : Addr) (w : World) (K : Value → World → Prop) : code_field_2_1.W a0 a1 a2 a3 w K = fnW Tryd.prog Tryd.f50 (.named (.named .auto)) [.pointer (some a0), .pointer (some a1), .pointer (some a2), .pointer (some a3)] w K := by kernel_rfl
theorem code_field_2_1.calls (ok : Okay Tryd.prog) {a0 : Addr} {a1 : Addr} {a2 : Addr} {a3 : Addr} {w : World} {K : Value → World → Prop} (h : code_field_2_1.W a0 a1 a2 a3 w K) : CallsV Tryd.prog 50 #[.pointer (some a0), .pointer (some a1), .pointer (some a2), .pointer (some a3)] w K :=
  fnW_calls ok Tryd.func50 (an := (.named (.named .auto))) (args := [.pointer (some a0), .pointer (some a1), .pointer (some a2), .pointer (some a3)]) (by rw [← code_field_2_1.eq]; exact h)
noncomputable def code_field_10.W : Addr → Addr → Addr → World → (Value → World → Prop) → Prop := fun (a0 a1 a2 : Go.Addr) (w : Go.World) (K : Go.Value → Go.World → Prop) => ∃ (x : Go.Value),
 Go.World.cell? w a0 = Option.some x ∧ ∃ (x_1 : Option Go.Addr), ∃ (x_2 : Nat), ∃ (x_3 : Nat), Go.World.cell? w (Go.Addr.add a1 (4 : Nat)) = Option.some (Go.Value.slice x_1 x_2 x_3) ∧ ∃ (fid : Nat), ∃
 (first : Array Go.Value), ∃ (captured : Array Go.Value), x = Go.Value.func (Go.Fn.func fid) first captured ∧ Go.Sx.bodied Go.Proofs.Tryd.prog fid = Bool.true ∧ Go.Sx.CallsV Go.Proofs.Tryd.prog fid
 (List.toArray (Array.toList first ++ ([Go.Value.int Go.IntKind.i64 (↑x_2 : Int)] ++ Array.toList captured))) w fun (r : Go.Value) (w' : Go.World) => ∃ (x : Go.Value), r = x ∧ ∃ (fid : Nat), ∃ (first :
 Array Go.Value), ∃ (captured : Array Go.Value), x = Go.Value.func (Go.Fn.func fid) first captured ∧ Go.Sx.bodied Go.Proofs.Tryd.prog fid = Bool.true ∧ Go.Sx.CallsV Go.Proofs.Tryd.prog fid (List.toArray
 (Array.toList first ++ ([] ++ Array.toList captured))) w' fun (r : Go.Value) (w' : Go.World) => ∃ (x : Bool), r = Go.Value.bool x ∧ bif x then ∃ (x : Option Go.Addr), ∃ (x_4 : Nat), ∃ (x_5 : Nat),
 Go.World.cell? w' (Go.Addr.add a1 (4 : Nat)) = Option.some (Go.Value.slice x x_4 x_5) ∧ ∃ (x_6 : Int), Go.World.cell? w' a2 = Option.some (Go.Value.int Go.IntKind.i64 x_6) ∧ ∃ (ad : Go.Addr), x =
 Option.some ad ∧ ((0 : Int) ≤ x_6 ∧ x_6 < (↑x_4 : Int)) ∧ ∃ (x : Int), Go.World.cell? w' (Go.Addr.add (Go.Addr.add ad (Int.toNat x_6 * (3 : Nat))) (0 : Nat)) = Option.some (Go.Value.int Go.IntKind.u8
 x) ∧ K (Go.Value.bool (Decidable.decide (x = (2 : Int)))) w' else K (Go.Value.bool Bool.false) w'
theorem code_field_10.eq (a0 : Addr) (a1 : Addr) (a2 : Addr) (w : World) (K : Value → World → Prop) : code_field_10.W a0 a1 a2 w K = fnW Tryd.prog Tryd.f58 (.named (.named .auto)) [.pointer (some a0), .pointer (some a1), .pointer (some a2)] w K := by kernel_rfl
theorem code_field_10.calls (ok : Okay Tryd.prog) {a0 : Addr} {a1 : Addr} {a2 : Addr} {w : World} {K : Value → World → Prop} (h : code_field_10.W a0 a1 a2 w K) : CallsV Tryd.prog 58 #[.pointer (some a0), .pointer (some a1), .pointer (some a2)] w K :=
  fnW_calls ok Tryd.func58 (an := (.named (.named .auto))) (args := [.pointer (some a0), .pointer (some a1), .pointer (some a2)]) (by rw [← code_field_10.eq]; exact h)
noncomputable def code_field.W : Int → Int → Int → Option Addr → Nat → Nat → Option Addr → Nat → Nat → Option Addr → Nat → Nat → Option Addr → Nat → Nat → Option Addr → Nat → Nat → Option Addr → Nat →
 Nat → Int → Int → Int → World → (Value → World → Prop) → Prop := fun (p0 p1 p2 : Int) (p3_A : Option Go.Addr) (p3_n p3_c : Nat) (p4_A : Option Go.Addr) (p4_n p4_c : Nat) (p5_A : Option Go.Addr) (p5_n
 p5_c : Nat) (p6_A : Option Go.Addr) (p6_n p6_c : Nat) (p7_A : Option Go.Addr) (p7_n p7_c : Nat) (p8_A : Option Go.Addr) (p8_n p8_c : Nat) (atx letter n : Int) (w : Go.World) (K : Go.Value → Go.World →
 Prop) => ∀ (g : Nat) (w' : Go.World), Go.Sx.Fresh w g w' [Go.Value.int Go.IntKind.i64 p0, Go.Value.int Go.IntKind.i64 p1, Go.Value.int Go.IntKind.i64 p2, Go.Value.slice p3_A p3_n p3_c, Go.Value.slice
 p4_A p4_n p4_c, Go.Value.slice p5_A p5_n p5_c, Go.Value.slice p6_A p6_n p6_c, Go.Value.slice p7_A p7_n p7_c, Go.Value.slice p8_A p8_n p8_c] (29 : Nat) → ∀ (g_1 : Nat) (w'_1 : Go.World), Go.Sx.Fresh w'
 g_1 w'_1 [Go.Value.int Go.IntKind.i64 atx] (3 : Nat) → ∀ (g_2 : Nat) (w' : Go.World), Go.Sx.Fresh w'_1 g_2 w' [Go.Value.int Go.IntKind.i64 n] (3 : Nat) → ∀ (g_3 : Nat) (w'_2 : Go.World), Go.Sx.Fresh w'
 g_3 w'_2 [Go.Value.nilFunc] (94 : Nat) → Go.Sx.cellsL (Go.Value.func (Go.Fn.func (47 : Nat)) #[] #[Go.Value.pointer (Option.some (Go.Addr.mk g_2 (0 : Nat) Option.none))]) = [Go.Value.func (Go.Fn.func
 (47 : Nat)) #[] #[Go.Value.pointer (Option.some (Go.Addr.mk g_2 (0 : Nat) Option.none))]] ∧ Go.Value.oneCell' (Go.Value.func (Go.Fn.func (47 : Nat)) #[] #[Go.Value.pointer (Option.some (Go.Addr.mk g_2
 (0 : Nat) Option.none))]) = Bool.true ∧ Go.Sx.stOK (Go.Addr.mk g_3 (0 : Nat) Option.none) (0 : Nat) [Go.Value.func (Go.Fn.func (47 : Nat)) #[] #[Go.Value.pointer (Option.some (Go.Addr.mk g_2 (0 : Nat)
 Option.none))]] w'_2 ∧ ∀ (w' : Go.World), w' = Go.Sx.setAll (Go.Addr.mk g_3 (0 : Nat) Option.none) (0 : Nat) [Go.Value.func (Go.Fn.func (47 : Nat)) #[] #[Go.Value.pointer (Option.some (Go.Addr.mk g_2
 (0 : Nat) Option.none))]] w'_2 → ∃ (S : Go.World → Prop), S (Go.World.drew w') ∧ ∃ (x : Go.Value), (∀ (u : Go.World), S u → Go.World.cell? u (Go.Addr.mk g_3 (0 : Nat) Option.none) = Option.some x) ∧ ∃
 (x_1 : Int), (∀ (u : Go.World), S u → Go.World.cell? u (Go.Addr.add (Go.Addr.mk g (0 : Nat) Option.none) (1 : Nat)) = Option.some (Go.Value.int Go.IntKind.i64 x_1)) ∧ ∃ (x_2 : Go.Value), (∀ (u :
 Go.World), S u → Go.World.cell? u (Go.Addr.mk g_3 (0 : Nat) Option.none) = Option.some x_2) ∧ ∃ (x_3 : Option Go.Addr), ∃ (x_4 : Nat), ∃ (x_5 : Nat), (∀ (u : Go.World), S u → Go.World.cell? u
 (Go.Addr.add (Go.Addr.mk g (0 : Nat) Option.none) (4 : Nat)) = Option.some (Go.Value.slice x_3 x_4 x_5)) ∧ ∃ (x_6 : Go.Value), (∀ (u : Go.World), S u → Go.World.cell? u (Go.Addr.mk g_3 (0 : Nat)
 Option.none) = Option.some x_6) ∧ ∃ (x_7 : Int), (∀ (u : Go.World), S u → Go.World.cell? u (Go.Addr.add (Go.Addr.mk g (0 : Nat) Option.none) (2 : Nat)) = Option.some (Go.Value.int Go.IntKind.i64 x_7))
 ∧ ∃ (x_8 : Go.Value), (∀ (u : Go.World), S u → Go.World.cell? u (Go.Addr.mk g_3 (0 : Nat) Option.none) = Option.some x_8) ∧ ∃ (x_9 : Option Go.Addr), ∃ (x_10 : Nat), ∃ (x_11 : Nat), (∀ (u : Go.World),
 S u → Go.World.cell? u (Go.Addr.add (Go.Addr.mk g (0 : Nat) Option.none) (6 : Nat)) = Option.some (Go.Value.slice x_9 x_10 x_11)) ∧ ∃ (x_12 : Go.Value), (∀ (u : Go.World), S u → Go.World.cell? u
 (Go.Addr.mk g_3 (0 : Nat) Option.none) = Option.some x_12) ∧ ∃ (x_13 : Option Go.Addr), ∃ (x_14 : Nat), ∃ (x_15 : Nat), (∀ (u : Go.World), S u → Go.World.cell? u (Go.Addr.add (Go.Addr.mk g (0 : Nat)
 Option.none) (7 : Nat)) = Option.some (Go.Value.slice x_13 x_14 x_15)) ∧ ∃ (x_16 : Go.Value), (∀ (u : Go.World), S u → Go.World.cell? u (Go.Addr.mk g_3 (0 : Nat) Option.none) = Option.some x_16) ∧ ∃
 (x_17 : Option Go.Addr), ∃ (x_18 : Nat), ∃ (x_19 : Nat), (∀ (u : Go.World), S u → Go.World.cell? u (Go.Addr.add (Go.Addr.mk g (0 : Nat) Option.none) (5 : Nat)) = Option.some (Go.Value.slice x_17 x_18
 x_19)) ∧ ∃ (x_20 : Go.Value), (∀ (u : Go.World), S u → Go.World.cell? u (Go.Addr.mk g_3 (0 : Nat) Option.none) = Option.some x_20) ∧ ∃ (x_21 : Go.Value), (∀ (u : Go.World), S u → Go.World.cell? u
 (Go.Addr.mk g_3 (0 : Nat) Option.none) = Option.some x_21) ∧ ∃ (x_22 : Go.Value), (∀ (u : Go.World), S u → Go.World.cell? u (Go.Addr.mk g_3 (0 : Nat) Option.none) = Option.some x_22) ∧ ∃ (x_23 :
 Go.Value), (∀ (u : Go.World), S u → Go.World.cell? u (Go.Addr.mk g_3 (0 : Nat) Option.none) = Option.some x_23) ∧ ∃ (G : (Nat → Bool) → (Nat → Go.Value) → Go.World → Prop), (∀ (ν : Nat → Go.Value), G
 (fun (x : Nat) => Bool.false) ν (Go.World.drew w')) ∧ (∀ (D : Nat → Bool) (ν : Nat → Go.Value) (w : Go.World), G D ν w → S w) ∧ ((∀ (D : Nat → Bool) (ν : Nat → Go.Value) (w : Go.World), G D ν w → D (0
 : Nat) = Bool.false → ∃ (x : Option Nat), ∃ (w' : Go.World), Go.Sx.RunsTo Go.Proofs.Tryd.prog (Go.Instr.makeMap (96 : Nat) Option.none) w (Go.Value.map x) w' ∧ G (Go.Sx.setD D (0 : Nat)) (Go.Sx.setNuV
 ν (Option.some (14 : Nat)) (Go.Value.map x)) w') ∧ (∀ (D : Nat → Bool) (ν : Nat → Go.Value) (w : Go.World), G D ν w → D (2 : Nat) = Bool.false → D (0 : Nat) = Bool.true → ∃ (x : Option Nat), ν (14 :
 Nat) = Go.Value.map x ∧ ∃ (w' : Go.World), Go.Sx.RunsTo Go.Proofs.Tryd.prog (Go.Instr.mapUpdate (96 : Nat) (Go.Value.map x) (Go.Value.int Go.IntKind.u8 (45 : Int)) (Go.Value.func (Go.Fn.func (51 :
 Nat)) #[] #[Go.Value.pointer (Option.some (Go.Addr.mk g_2 (0 : Nat) Option.none))])) w () w' ∧ G (Go.Sx.setD D (2 : Nat)) (Go.Sx.setNuV ν Option.none Go.undef) w') ∧ (∀ (D : Nat → Bool) (ν : Nat →
 Go.Value) (w : Go.World), G D ν w → D (6 : Nat) = Bool.false → ∃ (fid : Nat), ∃ (first : Array Go.Value), ∃ (captured : Array Go.Value), x = Go.Value.func (Go.Fn.func fid) first captured ∧ Go.Sx.bodied
 Go.Proofs.Tryd.prog fid = Bool.true ∧ Go.Sx.CallsV Go.Proofs.Tryd.prog fid (List.toArray (Array.toList first ++ ([Go.Value.int Go.IntKind.i64 x_1] ++ Array.toList captured))) w fun (r : Go.Value) (w' :
 Go.World) => ∃ (x : Go.Value), r = x ∧ G (Go.Sx.setD D (6 : Nat)) (Go.Sx.setNuV ν (Option.some (19 : Nat)) x) w') ∧ (∀ (D : Nat → Bool) (ν : Nat → Go.Value) (w : Go.World), G D ν w → D (7 : Nat) =
 Bool.false → D (0 : Nat) = Bool.true → D (6 : Nat) = Bool.true → ∃ (x : Option Nat), ν (14 : Nat) = Go.Value.map x ∧ ∃ (w' : Go.World), Go.Sx.RunsTo Go.Proofs.Tryd.prog (Go.Instr.mapUpdate (96 : Nat)
 (Go.Value.map x) (Go.Value.int Go.IntKind.u8 (114 : Int)) (ν (19 : Nat))) w () w' ∧ G (Go.Sx.setD D (7 : Nat)) (Go.Sx.setNuV ν Option.none Go.undef) w') ∧ (∀ (D : Nat → Bool) (ν : Nat → Go.Value) (w :
 Go.World), G D ν w → D (12 : Nat) = Bool.false → D (6 : Nat) = Bool.true → ∃ (fid : Nat), ∃ (first : Array Go.Value), ∃ (captured : Array Go.Value), x_2 = Go.Value.func (Go.Fn.func fid) first captured
 ∧ Go.Sx.bodied Go.Proofs.Tryd.prog fid = Bool.true ∧ Go.Sx.CallsV Go.Proofs.Tryd.prog fid (List.toArray (Array.toList first ++ ([Go.Value.int Go.IntKind.i64 (↑x_4 : Int)] ++ Array.toList captured))) w
 fun (r : Go.Value) (w' : Go.World) => ∃ (x : Go.Value), r = x ∧ G (Go.Sx.setD D (12 : Nat)) (Go.Sx.setNuV ν (Option.some (24 : Nat)) x) w') ∧ (∀ (D : Nat → Bool) (ν : Nat → Go.Value) (w : Go.World), G
 D ν w → D (13 : Nat) = Bool.false → D (0 : Nat) = Bool.true → D (12 : Nat) = Bool.true → ∃ (x : Option Nat), ν (14 : Nat) = Go.Value.map x ∧ ∃ (w' : Go.World), Go.Sx.RunsTo Go.Proofs.Tryd.prog
 (Go.Instr.mapUpdate (96 : Nat) (Go.Value.map x) (Go.Value.int Go.IntKind.u8 (107 : Int)) (ν (24 : Nat))) w () w' ∧ G (Go.Sx.setD D (13 : Nat)) (Go.Sx.setNuV ν Option.none Go.undef) w') ∧ (∀ (D : Nat →
 Bool) (ν : Nat → Go.Value) (w : Go.World), G D ν w → D (17 : Nat) = Bool.false → D (12 : Nat) = Bool.true → ∃ (fid : Nat), ∃ (first : Array Go.Value), ∃ (captured : Array Go.Value), x_6 = Go.Value.func
 (Go.Fn.func fid) first captured ∧ Go.Sx.bodied Go.Proofs.Tryd.prog fid = Bool.true ∧ Go.Sx.CallsV Go.Proofs.Tryd.prog fid (List.toArray (Array.toList first ++ ([Go.Value.int Go.IntKind.i64 x_7] ++
 Array.toList captured))) w fun (r : Go.Value) (w' : Go.World) => ∃ (x : Go.Value), r = x ∧ G (Go.Sx.setD D (17 : Nat)) (Go.Sx.setNuV ν (Option.some (28 : Nat)) x) w') ∧ (∀ (D : Nat → Bool) (ν : Nat →
 Go.Value) (w : Go.World), G D ν w → D (18 : Nat) = Bool.false → D (0 : Nat) = Bool.true → D (17 : Nat) = Bool.true → ∃ (x : Option Nat), ν (14 : Nat) = Go.Value.map x ∧ ∃ (w' : Go.World), Go.Sx.RunsTo
 Go.Proofs.Tryd.prog (Go.Instr.mapUpdate (96 : Nat) (Go.Value.map x) (Go.Value.int Go.IntKind.u8 (98 : Int)) (ν (28 : Nat))) w () w' ∧ G (Go.Sx.setD D (18 : Nat)) (Go.Sx.setNuV ν Option.none Go.undef)
 w') ∧ (∀ (D : Nat → Bool) (ν : Nat → Go.Value) (w : Go.World), G D ν w → D (23 : Nat) = Bool.false → D (17 : Nat) = Bool.true → ∃ (fid : Nat), ∃ (first : Array Go.Value), ∃ (captured : Array Go.Value),
 x_8 = Go.Value.func (Go.Fn.func fid) first captured ∧ Go.Sx.bodied Go.Proofs.Tryd.prog fid = Bool.true ∧ Go.Sx.CallsV Go.Proofs.Tryd.prog fid (List.toArray (Array.toList first ++ ([Go.Value.int
 Go.IntKind.i64 (↑x_10 : Int)] ++ Array.toList captured))) w fun (r : Go.Value) (w' : Go.World) => ∃ (x : Go.Value), r = x ∧ G (Go.Sx.setD D (23 : Nat)) (Go.Sx.setNuV ν (Option.some (33 : Nat)) x) w') ∧
 (∀ (D : Nat → Bool) (ν : Nat → Go.Value) (w : Go.World), G D ν w → D (24 : Nat) = Bool.false → D (0 : Nat) = Bool.true → D (23 : Nat) = Bool.true → ∃ (x : Option Nat), ν (14 : Nat) = Go.Value.map x ∧ ∃
 (w' : Go.World), Go.Sx.RunsTo Go.Proofs.Tryd.prog (Go.Instr.mapUpdate (96 : Nat) (Go.Value.map x) (Go.Value.int Go.IntKind.u8 (115 : Int)) (ν (33 : Nat))) w () w' ∧ G (Go.Sx.setD D (24 : Nat))
 (Go.Sx.setNuV ν Option.none Go.undef) w') ∧ (∀ (D : Nat → Bool) (ν : Nat → Go.Value) (w : Go.World), G D ν w → D (29 : Nat) = Bool.false → D (23 : Nat) = Bool.true → ∃ (fid : Nat), ∃ (first : Array
 Go.Value), ∃ (captured : Array Go.Value), x_12 = Go.Value.func (Go.Fn.func fid) first captured ∧ Go.Sx.bodied Go.Proofs.Tryd.prog fid = Bool.true ∧ Go.Sx.CallsV Go.Proofs.Tryd.prog fid (List.toArray
 (Array.toList first ++ ([Go.Value.int Go.IntKind.i64 (↑x_14 : Int)] ++ Array.toList captured))) w fun (r : Go.Value) (w' : Go.World) => ∃ (x : Go.Value), r = x ∧ G (Go.Sx.setD D (29 : Nat))
 (Go.Sx.setNuV ν (Option.some (38 : Nat)) x) w') ∧ (∀ (D : Nat → Bool) (ν : Nat → Go.Value) (w : Go.World), G D ν w → D (30 : Nat) = Bool.false → D (0 : Nat) = Bool.true → D (29 : Nat) = Bool.true → ∃
 (x : Option Nat), ν (14 : Nat) = Go.Value.map x ∧ ∃ (w' : Go.World), Go.Sx.RunsTo Go.Proofs.Tryd.prog (Go.Instr.mapUpdate (96 : Nat) (Go.Value.map x) (Go.Value.int Go.IntKind.u8 (116 : Int)) (ν (38 :
 Nat))) w () w' ∧ G (Go.Sx.setD D (30 : Nat)) (Go.Sx.setNuV ν Option.none Go.undef) w') ∧ (∀ (D : Nat → Bool) (ν : Nat → Go.Value) (w : Go.World), G D ν w → D (35 : Nat) = Bool.false → D (29 : Nat) =
 Bool.true → ∃ (fid : Nat), ∃ (first : Array Go.Value), ∃ (captured : Array Go.Value), x_16 = Go.Value.func (Go.Fn.func fid) first captured ∧ Go.Sx.bodied Go.Proofs.Tryd.prog fid = Bool.true ∧
 Go.Sx.CallsV Go.Proofs.Tryd.prog fid (List.toArray (Array.toList first ++ ([Go.Value.int Go.IntKind.i64 (↑x_18 : Int)] ++ Array.toList captured))) w fun (r : Go.Value) (w' : Go.World) => ∃ (x :
 Go.Value), r = x ∧ G (Go.Sx.setD D (35 : Nat)) (Go.Sx.setNuV ν (Option.some (43 : Nat)) x) w') ∧ (∀ (D : Nat → Bool) (ν : Nat → Go.Value) (w : Go.World), G D ν w → D (36 : Nat) = Bool.false → D (0 :
 Nat) = Bool.true → D (35 : Nat) = Bool.true → ∃ (x : Option Nat), ν (14 : Nat) = Go.Value.map x ∧ ∃ (w' : Go.World), Go.Sx.RunsTo Go.Proofs.Tryd.prog (Go.Instr.mapUpdate (96 : Nat) (Go.Value.map x)
 (Go.Value.int Go.IntKind.u8 (99 : Int)) (ν (43 : Nat))) w () w' ∧ G (Go.Sx.setD D (36 : Nat)) (Go.Sx.setNuV ν Option.none Go.undef) w') ∧ (∀ (D : Nat → Bool) (ν : Nat → Go.Value) (w : Go.World), G D ν
 w → D (38 : Nat) = Bool.false → D (35 : Nat) = Bool.true → ∃ (fid : Nat), ∃ (first : Array Go.Value), ∃ (captured : Array Go.Value), x_20 = Go.Value.func (Go.Fn.func fid) first captured ∧ Go.Sx.bodied
 Go.Proofs.Tryd.prog fid = Bool.true ∧ Go.Sx.CallsV Go.Proofs.Tryd.prog fid (List.toArray (Array.toList first ++ ([Go.Value.int Go.IntKind.i64 (15 : Int)] ++ Array.toList captured))) w fun (r :
 Go.Value) (w' : Go.World) => ∃ (x : Go.Value), r = x ∧ G (Go.Sx.setD D (38 : Nat)) (Go.Sx.setNuV ν (Option.some (45 : Nat)) x) w') ∧ (∀ (D : Nat → Bool) (ν : Nat → Go.Value) (w : Go.World), G D ν w → D
 (39 : Nat) = Bool.false → D (0 : Nat) = Bool.true → D (38 : Nat) = Bool.true → ∃ (x : Option Nat), ν (14 : Nat) = Go.Value.map x ∧ ∃ (w' : Go.World), Go.Sx.RunsTo Go.Proofs.Tryd.prog
 (Go.Instr.mapUpdate (96 : Nat) (Go.Value.map x) (Go.Value.int Go.IntKind.u8 (50 : Int)) (ν (45 : Nat))) w () w' ∧ G (Go.Sx.setD D (39 : Nat)) (Go.Sx.setNuV ν Option.none Go.undef) w') ∧ (∀ (D : Nat →
 Bool) (ν : Nat → Go.Value) (w : Go.World), G D ν w → D (41 : Nat) = Bool.false → D (38 : Nat) = Bool.true → ∃ (fid : Nat), ∃ (first : Array Go.Value), ∃ (captured : Array Go.Value), x_21 =
 Go.Value.func (Go.Fn.func fid) first captured ∧ Go.Sx.bodied Go.Proofs.Tryd.prog fid = Bool.true ∧ Go.Sx.CallsV Go.Proofs.Tryd.prog fid (List.toArray (Array.toList first ++ ([Go.Value.int
 Go.IntKind.i64 (2 : Int)] ++ Array.toList captured))) w fun (r : Go.Value) (w' : Go.World) => ∃ (x : Go.Value), r = x ∧ G (Go.Sx.setD D (41 : Nat)) (Go.Sx.setNuV ν (Option.some (47 : Nat)) x) w') ∧ (∀
 (D : Nat → Bool) (ν : Nat → Go.Value) (w : Go.World), G D ν w → D (42 : Nat) = Bool.false → D (0 : Nat) = Bool.true → D (41 : Nat) = Bool.true → ∃ (x : Option Nat), ν (14 : Nat) = Go.Value.map x ∧ ∃
 (w' : Go.World), Go.Sx.RunsTo Go.Proofs.Tryd.prog (Go.Instr.mapUpdate (96 : Nat) (Go.Value.map x) (Go.Value.int Go.IntKind.u8 (49 : Int)) (ν (47 : Nat))) w () w' ∧ G (Go.Sx.setD D (42 : Nat))
 (Go.Sx.setNuV ν Option.none Go.undef) w') ∧ (∀ (D : Nat → Bool) (ν : Nat → Go.Value) (w : Go.World), G D ν w → D (44 : Nat) = Bool.false → D (41 : Nat) = Bool.true → ∃ (fid : Nat), ∃ (first : Array
 Go.Value), ∃ (captured : Array Go.Value), x_22 = Go.Value.func (Go.Fn.func fid) first captured ∧ Go.Sx.bodied Go.Proofs.Tryd.prog fid = Bool.true ∧ Go.Sx.CallsV Go.Proofs.Tryd.prog fid (List.toArray
 (Array.toList first ++ ([Go.Value.int Go.IntKind.i64 (10 : Int)] ++ Array.toList captured))) w fun (r : Go.Value) (w' : Go.World) => ∃ (x : Go.Value), r = x ∧ G (Go.Sx.setD D (44 : Nat)) (Go.Sx.setNuV
 ν (Option.some (49 : Nat)) x) w') ∧ (∀ (D : Nat → Bool) (ν : Nat → Go.Value) (w : Go.World), G D ν w → D (45 : Nat) = Bool.false → D (0 : Nat) = Bool.true → D (44 : Nat) = Bool.true → ∃ (x : Option
 Nat), ν (14 : Nat) = Go.Value.map x ∧ ∃ (w' : Go.World), Go.Sx.RunsTo Go.Proofs.Tryd.prog (Go.Instr.mapUpdate (96 : Nat) (Go.Value.map x) (Go.Value.int Go.IntKind.u8 (102 : Int)) (ν (49 : Nat))) w ()
 w' ∧ G (Go.Sx.setD D (45 : Nat)) (Go.Sx.setNuV ν Option.none Go.undef) w') ∧ (∀ (D : Nat → Bool) (ν : Nat → Go.Value) (w : Go.World), G D ν w → D (47 : Nat) = Bool.false → D (44 : Nat) = Bool.true → ∃
 (fid : Nat), ∃ (first : Array Go.Value), ∃ (captured : Array Go.Value), x_23 = Go.Value.func (Go.Fn.func fid) first captured ∧ Go.Sx.bodied Go.Proofs.Tryd.prog fid = Bool.true ∧ Go.Sx.CallsV
 Go.Proofs.Tryd.prog fid (List.toArray (Array.toList first ++ ([Go.Value.int Go.IntKind.i64 (60 : Int)] ++ Array.toList captured))) w fun (r : Go.Value) (w' : Go.World) => ∃ (x : Go.Value), r = x ∧ G
 (Go.Sx.setD D (47 : Nat)) (Go.Sx.setNuV ν (Option.some (51 : Nat)) x) w') ∧ (∀ (D : Nat → Bool) (ν : Nat → Go.Value) (w : Go.World), G D ν w → D (48 : Nat) = Bool.false → D (0 : Nat) = Bool.true → D
 (47 : Nat) = Bool.true → ∃ (x : Option Nat), ν (14 : Nat) = Go.Value.map x ∧ ∃ (w' : Go.World), Go.Sx.RunsTo Go.Proofs.Tryd.prog (Go.Instr.mapUpdate (96 : Nat) (Go.Value.map x) (Go.Value.int
 Go.IntKind.u8 (120 : Int)) (ν (51 : Nat))) w () w' ∧ G (Go.Sx.setD D (48 : Nat)) (Go.Sx.setNuV ν Option.none Go.undef) w') ∧ (∀ (D : Nat → Bool) (ν : Nat → Go.Value) (w : Go.World), G D ν w → D (50 :
 Nat) = Bool.false → D (0 : Nat) = Bool.true → ∃ (x : Option Nat), ν (14 : Nat) = Go.Value.map x ∧ ∃ (w' : Go.World), Go.Sx.RunsTo Go.Proofs.Tryd.prog (Go.Instr.mapUpdate (96 : Nat) (Go.Value.map x)
 (Go.Value.int Go.IntKind.u8 (106 : Int)) (Go.Value.func (Go.Fn.func (52 : Nat)) #[] #[Go.Value.pointer (Option.some (Go.Addr.mk g_2 (0 : Nat) Option.none)), Go.Value.pointer (Option.some (Go.Addr.mk
 g_1 (0 : Nat) Option.none)), Go.Value.pointer (Option.some (Go.Addr.mk g (0 : Nat) Option.none))])) w () w' ∧ G (Go.Sx.setD D (50 : Nat)) (Go.Sx.setNuV ν Option.none Go.undef) w') ∧ (∀ (D : Nat → Bool)
 (ν : Nat → Go.Value) (w : Go.World), G D ν w → D (52 : Nat) = Bool.false → D (0 : Nat) = Bool.true → ∃ (x : Option Nat), ν (14 : Nat) = Go.Value.map x ∧ ∃ (w' : Go.World), Go.Sx.RunsTo
 Go.Proofs.Tryd.prog (Go.Instr.mapUpdate (96 : Nat) (Go.Value.map x) (Go.Value.int Go.IntKind.u8 (110 : Int)) (Go.Value.func (Go.Fn.func (53 : Nat)) #[] #[Go.Value.pointer (Option.some (Go.Addr.mk g_2
 (0 : Nat) Option.none)), Go.Value.pointer (Option.some (Go.Addr.mk g_1 (0 : Nat) Option.none))])) w () w' ∧ G (Go.Sx.setD D (52 : Nat)) (Go.Sx.setNuV ν Option.none Go.undef) w') ∧ (∀ (D : Nat → Bool)
 (ν : Nat → Go.Value) (w : Go.World), G D ν w → D (54 : Nat) = Bool.false → D (0 : Nat) = Bool.true → ∃ (x : Option Nat), ν (14 : Nat) = Go.Value.map x ∧ ∃ (w' : Go.World), Go.Sx.RunsTo
 Go.Proofs.Tryd.prog (Go.Instr.mapUpdate (96 : Nat) (Go.Value.map x) (Go.Value.int Go.IntKind.u8 (109 : Int)) (Go.Value.func (Go.Fn.func (54 : Nat)) #[] #[Go.Value.pointer (Option.some (Go.Addr.mk g_2
 (0 : Nat) Option.none)), Go.Value.pointer (Option.some (Go.Addr.mk g (0 : Nat) Option.none))])) w () w' ∧ G (Go.Sx.setD D (54 : Nat)) (Go.Sx.setNuV ν Option.none Go.undef) w') ∧ (∀ (D : Nat → Bool) (ν
 : Nat → Go.Value) (w : Go.World), G D ν w → D (56 : Nat) = Bool.false → D (47 : Nat) = Bool.true → ∃ (fid : Nat), ∃ (first : Array Go.Value), ∃ (captured : Array Go.Value), Go.Value.func (Go.Fn.func
 (49 : Nat)) #[] #[Go.Value.pointer (Option.some (Go.Addr.mk g_3 (0 : Nat) Option.none)), Go.Value.pointer (Option.some (Go.Addr.mk g (0 : Nat) Option.none)), Go.Value.pointer (Option.some (Go.Addr.mk
 g_2 (0 : Nat) Option.none))] = Go.Value.func (Go.Fn.func fid) first captured ∧ Go.Sx.bodied Go.Proofs.Tryd.prog fid = Bool.true ∧ Go.Sx.CallsV Go.Proofs.Tryd.prog fid (List.toArray (Array.toList first
 ++ ([Go.Value.func (Go.Fn.func (55 : Nat)) #[] #[]] ++ Array.toList captured))) w fun (r : Go.Value) (w' : Go.World) => ∃ (x : Go.Value), r = x ∧ G (Go.Sx.setD D (56 : Nat)) (Go.Sx.setNuV ν
 (Option.some (56 : Nat)) x) w') ∧ (∀ (D : Nat → Bool) (ν : Nat → Go.Value) (w : Go.World), G D ν w → D (57 : Nat) = Bool.false → D (0 : Nat) = Bool.true → D (56 : Nat) = Bool.true → ∃ (x : Option Nat),
 ν (14 : Nat) = Go.Value.map x ∧ ∃ (w' : Go.World), Go.Sx.RunsTo Go.Proofs.Tryd.prog (Go.Instr.mapUpdate (96 : Nat) (Go.Value.map x) (Go.Value.int Go.IntKind.u8 (105 : Int)) (ν (56 : Nat))) w () w' ∧ G
 (Go.Sx.setD D (57 : Nat)) (Go.Sx.setNuV ν Option.none Go.undef) w') ∧ (∀ (D : Nat → Bool) (ν : Nat → Go.Value) (w : Go.World), G D ν w → D (59 : Nat) = Bool.false → D (56 : Nat) = Bool.true → ∃ (fid :
 Nat), ∃ (first : Array Go.Value), ∃ (captured : Array Go.Value), Go.Value.func (Go.Fn.func (49 : Nat)) #[] #[Go.Value.pointer (Option.some (Go.Addr.mk g_3 (0 : Nat) Option.none)), Go.Value.pointer
 (Option.some (Go.Addr.mk g (0 : Nat) Option.none)), Go.Value.pointer (Option.some (Go.Addr.mk g_2 (0 : Nat) Option.none))] = Go.Value.func (Go.Fn.func fid) first captured ∧ Go.Sx.bodied
 Go.Proofs.Tryd.prog fid = Bool.true ∧ Go.Sx.CallsV Go.Proofs.Tryd.prog fid (List.toArray (Array.toList first ++ ([Go.Value.func (Go.Fn.func (56 : Nat)) #[] #[]] ++ Array.toList captured))) w fun (r :
 Go.Value) (w' : Go.World) => ∃ (x : Go.Value), r = x ∧ G (Go.Sx.setD D (59 : Nat)) (Go.Sx.setNuV ν (Option.some (58 : Nat)) x) w') ∧ (∀ (D : Nat → Bool) (ν : Nat → Go.Value) (w : Go.World), G D ν w → D
 (60 : Nat) = Bool.false → D (0 : Nat) = Bool.true → D (59 : Nat) = Bool.true → ∃ (x : Option Nat), ν (14 : Nat) = Go.Value.map x ∧ ∃ (w' : Go.World), Go.Sx.RunsTo Go.Proofs.Tryd.prog
 (Go.Instr.mapUpdate (96 : Nat) (Go.Value.map x) (Go.Value.int Go.IntKind.u8 (108 : Int)) (ν (58 : Nat))) w () w' ∧ G (Go.Sx.setD D (60 : Nat)) (Go.Sx.setNuV ν Option.none Go.undef) w') ∧ (∀ (D : Nat →
 Bool) (ν : Nat → Go.Value) (w : Go.World), G D ν w → D (62 : Nat) = Bool.false → D (59 : Nat) = Bool.true → ∃ (fid : Nat), ∃ (first : Array Go.Value), ∃ (captured : Array Go.Value), Go.Value.func
 (Go.Fn.func (49 : Nat)) #[] #[Go.Value.pointer (Option.some (Go.Addr.mk g_3 (0 : Nat) Option.none)), Go.Value.pointer (Option.some (Go.Addr.mk g (0 : Nat) Option.none)), Go.Value.pointer (Option.some
 (Go.Addr.mk g_2 (0 : Nat) Option.none))] = Go.Value.func (Go.Fn.func fid) first captured ∧ Go.Sx.bodied Go.Proofs.Tryd.prog fid = Bool.true ∧ Go.Sx.CallsV Go.Proofs.Tryd.prog fid (List.toArray
 (Array.toList first ++ ([Go.Value.func (Go.Fn.func (57 : Nat)) #[] #[]] ++ Array.toList captured))) w fun (r : Go.Value) (w' : Go.World) => ∃ (x : Go.Value), r = x ∧ G (Go.Sx.setD D (62 : Nat))
 (Go.Sx.setNuV ν (Option.some (60 : Nat)) x) w') ∧ (∀ (D : Nat → Bool) (ν : Nat → Go.Value) (w : Go.World), G D ν w → D (63 : Nat) = Bool.false → D (0 : Nat) = Bool.true → D (62 : Nat) = Bool.true → ∃
 (x : Option Nat), ν (14 : Nat) = Go.Value.map x ∧ ∃ (w' : Go.World), Go.Sx.RunsTo Go.Proofs.Tryd.prog (Go.Instr.mapUpdate (96 : Nat) (Go.Value.map x) (Go.Value.int Go.IntKind.u8 (119 : Int)) (ν (60 :
 Nat))) w () w' ∧ G (Go.Sx.setD D (63 : Nat)) (Go.Sx.setNuV ν Option.none Go.undef) w') ∧ ∀ (D : Nat → Bool) (ν : Nat → Go.Value) (w : Go.World), G D ν w → D (65 : Nat) = Bool.false → D (0 : Nat) =
 Bool.true → ∃ (x : Option Nat), ν (14 : Nat) = Go.Value.map x ∧ ∃ (w' : Go.World), Go.Sx.RunsTo Go.Proofs.Tryd.prog (Go.Instr.mapUpdate (96 : Nat) (Go.Value.map x) (Go.Value.int Go.IntKind.u8 (113 :
 Int)) (Go.Value.func (Go.Fn.func (58 : Nat)) #[] #[Go.Value.pointer (Option.some (Go.Addr.mk g_3 (0 : Nat) Option.none)), Go.Value.pointer (Option.some (Go.Addr.mk g (0 : Nat) Option.none)),
 Go.Value.pointer (Option.some (Go.Addr.mk g_2 (0 : Nat) Option.none))])) w () w' ∧ G (Go.Sx.setD D (65 : Nat)) (Go.Sx.setNuV ν Option.none Go.undef) w') ∧ ∀ (D : Nat → Bool) (ν : Nat → Go.Value) (w :
 Go.World), D (0 : Nat) = Bool.true → D (2 : Nat) = Bool.true → D (6 : Nat) = Bool.true → D (7 : Nat) = Bool.true → D (12 : Nat) = Bool.true → D (13 : Nat) = Bool.true → D (17 : Nat) = Bool.true → D (18
 : Nat) = Bool.true → D (23 : Nat) = Bool.true → D (24 : Nat) = Bool.true → D (29 : Nat) = Bool.true → D (30 : Nat) = Bool.true → D (35 : Nat) = Bool.true → D (36 : Nat) = Bool.true → D (38 : Nat) =
 Bool.true → D (39 : Nat) = Bool.true → D (41 : Nat) = Bool.true → D (42 : Nat) = Bool.true → D (44 : Nat) = Bool.true → D (45 : Nat) = Bool.true → D (47 : Nat) = Bool.true → D (48 : Nat) = Bool.true →
 D (50 : Nat) = Bool.true → D (52 : Nat) = Bool.true → D (54 : Nat) = Bool.true → D (56 : Nat) = Bool.true → D (57 : Nat) = Bool.true → D (59 : Nat) = Bool.true → D (60 : Nat) = Bool.true → D (62 : Nat)
 = Bool.true → D (63 : Nat) = Bool.true → D (65 : Nat) = Bool.true → G D ν w → ∃ (x : Option Nat), ν (14 : Nat) = Go.Value.map x ∧ ∃ (x_24 : Go.Value), ∃ (w' : Go.World), Go.Sx.RunsTo
 Go.Proofs.Tryd.prog (Go.Instr.lookup (96 : Nat) (Go.Value.map x) (Go.Value.int Go.IntKind.u8 letter) Bool.false) w x_24 w' ∧ ∃ (fid : Nat), ∃ (first : Array Go.Value), ∃ (captured : Array Go.Value),
 x_24 = Go.Value.func (Go.Fn.func fid) first captured ∧ Go.Sx.bodied Go.Proofs.Tryd.prog fid = Bool.true ∧ Go.Sx.CallsV Go.Proofs.Tryd.prog fid (List.toArray (Array.toList first ++ ([] ++ Array.toList
 captured))) w' fun (r : Go.Value) (w' : Go.World) => ∃ (x : Bool), r = Go.Value.bool x ∧ K (Go.Value.bool x) w'
theorem code_field.eq (p0 : Int) (p1 : Int) (p2 : Int) (p3_A : Option Addr) (p3_n : Nat) (p3_c : Nat) (p4_A : Option Addr) (p4_n : Nat) (p4_c : Nat) (p5_A : Option Addr) (p5_n : Nat) (p5_c : Nat) (p6_A : Option Addr) (p6_n : Nat) (p6_c : Nat) (p7_A : Option Addr) (p7_n : Nat) (p7_c : Nat) (p8_A : Option Addr) (p8_n : Nat) (p8_c : Nat) (atx : Int) (letter : Int) (n : Int) (w : World) (K : Value → World → Prop) : code_field.W p0 p1 p2 p3_A p3_n p3_c p4_A p4_n p4_c p5_A p5_n p5_c p6_A p6_n p6_c p7_A p7_n p7_c p8_A p8_n p8_c atx letter n w K = fnW Tryd.prog Tryd.f20 (.named (.named (.seq .auto (.seq .auto (.seq .auto (.seq (.loop [(14, .one .map)] .auto) .auto)))))) [.agg #[.int .i64 p0, .int .i64 p1, .int .i64 p2, .slice p3_A p3_n p3_c, .slice p4_A p4_n p4_c, .slice p5_A p5_n p5_c, .slice p6_A p6_n p6_c, .slice p7_A p7_n p7_c, .slice p8_A p8_n p8_c], .int .i64 atx, .int .u8 letter, .int .i64 n] w K := by kernel_rfl
theorem code_field.calls (ok : Okay Tryd.prog) {p0 : Int} {p1 : Int} {p2 : Int} {p3_A : Option Addr} {p3_n : Nat} {p3_c : Nat} {p4_A : Option Addr} {p4_n : Nat} {p4_c : Nat} {p5_A : Option Addr} {p5_n : Nat} {p5_c : Nat} {p6_A : Option Addr} {p6_n : Nat} {p6_c : Nat} {p7_A : Option Addr} {p7_n : Nat} {p7_c : Nat} {p8_A : Option Addr} {p8_n : Nat} {p8_c : Nat} {atx : Int} {letter : Int} {n : Int} {w : World} {K : Value → World → Prop} (h : code_field.W p0 p1 p2 p3_A p3_n p3_c p4_A p4_n p4_c p5_A p5_n p5_c p6_A p6_n p6_c p7_A p7_n p7_c p8_A p8_n p8_c atx letter n w K) : CallsV Tryd.prog 20 #[.agg #[.int .i64 p0, .int .i64 p1, .int .i64 p2, .slice p3_A p3_n p3_c, .slice p4_A p4_n p4_c, .slice p5_A p5_n p5_c, .slice p6_A p6_n p6_c, .slice p7_A p7_n p7_c, .slice p8_A p8_n p8_c], .int .i64 atx, .int .u8 letter, .int .i64 n] w K :=
  fnW_calls ok Tryd.func20 (an := (.named (.named (.seq .auto (.seq .auto (.seq .auto (.seq (.loop [(14, .one .map)] .auto) .auto))))))) (args := [.agg #[.int .i64 p0, .int .i64 p1, .int .i64 p2, .slice p3_A p3_n p3_c, .slice p4_A p4_n p4_c, .slice p5_A p5_n p5_c, .slice p6_A p6_n p6_c, .slice p7_A p7_n p7_c, .slice p8_A p8_n p8_c], .int .i64 atx, .int .u8 letter, .int .i64 n]) (by rw [← code_field.eq]; exact h)
end Go.Proofs.YtaifphjenebgoaaDoor
/- Layer 15 (code): a program in memory; what of it but its code may be. -/
set_option linter.unusedVariables false
set_option linter.unusedSimpArgs false
namespace Go.Proofs.YtaifphjenebgoaaDoor
open Go Go.Sx R1 K15
/-- where a program's parts lie -/
structure PAd where
  nA : Option Addr
  nc : Nat
  cA : Option Addr
  cc : Nat
  uA : Option Addr
  uc : Nat
  sA : Option Addr
  sc : Nat
  tA : Option Addr
  tc : Nat
  dA : Option Addr
  dc : Nat
abbrev pcs (p : Prog) (a : PAd) : List Value := [.int .i64 p.ver, .int .i64 p.regs, .int .i64 p.binds, .slice a.nA p.names.length a.nc, .slice a.cA p.consts.length a.cc, .slice a.uA p.curs.length a.uc, .slice a.sA p.sorts.length a.sc, .slice a.tA p.tots.length a.tc, .slice a.dA p.code.length a.dc]
abbrev pagg (p : Prog) (a : PAd) : Value := .agg #[.int .i64 p.ver, .int .i64 p.regs, .int .i64 p.binds, .slice a.nA p.names.length a.nc, .slice a.cA p.consts.length a.cc, .slice a.uA p.curs.length a.uc, .slice a.sA p.sorts.length a.sc, .slice a.tA p.tots.length a.tc, .slice a.dA p.code.length a.dc]
/-- a program that is read -/
structure PIm (w : World) (p : Prog) (a : PAd) : Prop where
  names : Imm Kd.str NoB w a.nA p.names
  consts : Imm KV NoB w a.cA p.consts
  curs : Imm KCur NoB w a.uA p.curs
  sorts : Imm KSrt NoB w a.sA p.sorts
  tots : Imm KTot NoB w a.tA p.tots
  code : Imm KIns NoB w a.dA p.code
  l1 : p.names.length ≤ maxLen
  l2 : p.consts.length ≤ maxLen
  l3 : p.curs.length ≤ maxLen
  l4 : p.sorts.length ≤ maxLen
  l5 : p.tots.length ≤ maxLen
  l6 : p.code.length ≤ maxLen
  c6 : p.code.length ≤ a.dc
theorem PIm.ext {w w' : World} {p : Prog} {a : PAd} (h : PIm w p a) (e : Ext w w') : PIm w' p a :=
  ⟨h.names.ext KStr_pos e, h.consts.ext KV_pos e, h.curs.ext KCur_pos e, h.sorts.ext KSrt_pos e, h.tots.ext KTot_pos e, h.code.ext KIns_pos e, h.l1, h.l2, h.l3, h.l4, h.l5, h.l6, h.c6⟩
set_option maxRecDepth 10000 in
theorem parts_spec {w : World} {p : Prog} {a : PAd} (h : PIm w p a) : CallsV Tryd.prog 18 #[pagg p a] w fun r w' => r = .bool (partsP p) ∧ Ext w w' := by
  refine code_parts.calls okay ?_
  unfold code_parts.W
  intro g w1 f1
  intro g1 w2 f2
  refine ⟨rfl, rfl, f2.blk.stOK [_] 0 (by simp), ?_⟩
  intro w3 hw3
  have b3 : Blk w3 g1 [.func (.func 34) #[] #[]] := by rw [hw3]; exact Blk.setAll (o := 0) [_] 0 f2.blk
  have e3 : Ext w w3 := by rw [hw3]; exact Ext.setAll (f1.ext.trans' f2.ext) (Nat.le_trans f1.ext.size f2.ge) _ _
  have bp : Blk w3 g (pcs p a) := by
    rw [hw3]
    exact ((f1.blk.ext f2.ext).keep (Fr.setAll (g := g1) (o := 0) _ 0 w2) (fun e => by have := f2.ge; have := f1.blk.lt; omega))
  clear hw3
  have fin : ∀ (b : Bool) (u : World), b = partsP p → Ext w3 u → (Value.bool b = .bool (partsP p) ∧ Ext w u) := fun b u hb e => ⟨by rw [hb], e3.trans' e⟩
  refine ⟨_, b3.cell0 rfl, _, bp.cell rfl, _, _, _, rfl, by kernel_rfl, ?_⟩
  refine (within_spec w3 p.ver 1 1099511627776).mono ?_
  rintro _ u ⟨rfl, hu⟩
  obtain rfl : w3 = u := hu.symm
  refine ⟨_, rfl, cbool (fun h0 => ?_) (fun h0 => fin _ _ (by simp [partsP, h0]) (.refl _ _))⟩
  refine ⟨_, b3.cell0 rfl, _, bp.cell rfl, _, _, _, rfl, by kernel_rfl, ?_⟩
  refine (within_spec w3 p.regs 1 250).mono ?_
  rintro _ u ⟨rfl, hu⟩
  obtain rfl : w3 = u := hu.symm
  refine ⟨_, rfl, cbool (fun h1 => ?_) (fun h1 => fin _ _ (by simp [partsP, h0, h1]) (.refl _ _))⟩
  refine ⟨_, b3.cell0 rfl, _, bp.cell rfl, _, _, _, rfl, by kernel_rfl, ?_⟩
  refine (within_spec w3 p.binds 0 1000).mono ?_
  rintro _ u ⟨rfl, hu⟩
  obtain rfl : w3 = u := hu.symm
  refine ⟨_, rfl, cbool (fun h2 => ?_) (fun h2 => fin _ _ (by simp [partsP, h0, h1, h2]) (.refl _ _))⟩
  refine ⟨_, _, _, bp.cell rfl, brd (fun h3 => ?_) (fun h3 => fin _ _ (by simp [partsP, h0, h1, h2, show ¬ p.names.length ≤ 200 by omega]) (.refl _ _))⟩
  have h3 : p.names.length ≤ 200 := by omega
  refine ⟨_, _, _, bp.cell rfl, brd (fun h4 => ?_) (fun h4 => fin _ _ (by simp [partsP, h0, h1, h2, h3, show ¬ p.consts.length ≤ 1000 by omega]) (.refl _ _))⟩
  have h4 : p.consts.length ≤ 1000 := by omega
  refine ⟨_, _, _, bp.cell rfl, brd (fun h5 => ?_) (fun h5 => fin _ _ (by simp [partsP, h0, h1, h2, h3, h4, show ¬ p.curs.length ≤ 12 by omega]) (.refl _ _))⟩
  have h5 : p.curs.length ≤ 12 := by omega
  refine ⟨_, _, _, bp.cell rfl, brd (fun h6 => ?_) (fun h6 => fin _ _ (by simp [partsP, h0, h1, h2, h3, h4, h5, show ¬ p.sorts.length ≤ 6 by omega]) (.refl _ _))⟩
  have h6 : p.sorts.length ≤ 6 := by omega
  refine ⟨_, _, _, bp.cell rfl, brd (fun h7 => ?_) (fun h7 => fin _ _ (by simp [partsP, h0, h1, h2, h3, h4, h5, h6, show ¬ p.tots.length ≤ 60 by omega]) (.refl _ _))⟩
  have h7 : p.tots.length ≤ 60 := by omega
  have e30 : Ext w3 w3 := .refl _ _
  refine ⟨_, _, _, (bp.ext e30).cell rfl, ?_⟩
  refine (contains_string rfl (h.ext (e3.trans' e30)).names h.l1 (tests1 w3)).mono ?_
  rintro _ v1 ⟨rfl, q1⟩
  have e31 := e30.trans' q1
  refine ⟨_, rfl, brnb (fun k0 => ?_) (fun k0 => fin _ _ (by simp only [partsP, k0]; simp [h0, h1, h2, h3, h4, h5, h6, h7]) e31)⟩
  refine ⟨_, _, _, (bp.ext e31).cell rfl, ?_⟩
  refine (contains_api_Value rfl (h.ext (e3.trans' e31)).consts h.l2 (tests2 v1)).mono ?_
  rintro _ v2 ⟨rfl, q2⟩
  have e32 := e31.trans' q2
  refine ⟨_, rfl, brnb (fun k1 => ?_) (fun k1 => fin _ _ (by simp only [partsP, k1]; simp [h0, h1, h2, h3, h4, h5, h6, h7, k0]) e32)⟩
  refine ⟨_, _, _, (bp.ext e32).cell rfl, ?_⟩
  refine (contains_api_Cur rfl (h.ext (e3.trans' e32)).curs h.l3 (tests3 v2)).mono ?_
  rintro _ v3 ⟨rfl, q3⟩
  have e33 := e32.trans' q3
  refine ⟨_, rfl, brnb (fun k2 => ?_) (fun k2 => fin _ _ (by simp only [partsP, k2]; simp [h0, h1, h2, h3, h4, h5, h6, h7, k0, k1]) e33)⟩
  refine ⟨_, _, _, (bp.ext e33).cell rfl, ?_⟩
  refine (contains_api_Sort rfl (h.ext (e3.trans' e33)).sorts h.l4 (tests4 (b3.ext e33))).mono ?_
  rintro _ v4 ⟨rfl, q4⟩
  have e34 := e33.trans' q4
  refine ⟨_, rfl, brnb (fun k3 => ?_) (fun k3 => fin _ _ (by simp only [partsP, k3]; simp [h0, h1, h2, h3, h4, h5, h6, h7, k0, k1, k2]) e34)⟩
  refine ⟨_, _, _, (bp.ext e34).cell rfl, ?_⟩
  refine (contains_api_Acc rfl (h.ext (e3.trans' e34)).tots h.l5 (tests5 v4)).mono ?_
  rintro _ v5 ⟨rfl, q5⟩
  have e35 := e34.trans' q5
  exact ⟨_, rfl, fin _ _ (by simp [partsP, h0, h1, h2, h3, h4, h5, h6, h7, k0, k1, k2, k3]) e35⟩
end Go.Proofs.YtaifphjenebgoaaDoor
/- Layer 15 (code): the closures of field. -/
set_option linter.unusedVariables false
set_option linter.unusedSimpArgs false
namespace Go.Proofs.YtaifphjenebgoaaDoor
open Go Go.Sx R1 K15
abbrev bptr (g : Nat) : Value := .pointer (some ⟨g, 0, none⟩)
theorem below1_spec {u : World} {g2 g : Nat} {n high : Int} (bn : Blk u g2 [.int .i64 n]) (bh : Blk u g [.int .i64 high]) :
    CallsV Tryd.prog 48 #[bptr g2, bptr g] u fun r w' => r = .bool (below n high) ∧ Ext u w' := by
  refine code_field_1_1.calls okay ?_
  unfold code_field_1_1.W
  refine ⟨_, bn.cell0 rfl, brd (fun h => ?_) (fun h => ?_)⟩
  · exact ⟨_, bn.cell0 rfl, _, bh.cell0 rfl, by simp [below, h], .refl _ _⟩
  · exact ⟨by simp [below, h], .refl _ _⟩
theorem below_spec (u : World) (g2 : Nat) (high : Int) :
    CallsV Tryd.prog 47 #[.int .i64 high, bptr g2] u fun r w' => ∃ g, r = .func (.func 48) #[] #[bptr g2, bptr g] ∧ Blk w' g [.int .i64 high] ∧ Ext u w' := by
  refine code_field_1.calls okay ?_
  unfold code_field_1.W
  intro g w' f
  exact ⟨g, rfl, f.blk, f.ext⟩
/-- what field's closures stand on -/
structure FCtx (w : World) (p : Prog) (a : PAd) (t n : Int) (g g1 g2 g3 : Nat) : Prop where
  P : PIm w p a
  bp : Blk w g (pcs p a)
  bt : Blk w g1 [.int .i64 t]
  bn : Blk w g2 [.int .i64 n]
  bb : Blk w g3 [.func (.func 47) #[] #[bptr g2]]
theorem FCtx.ext {w w' : World} {p : Prog} {a : PAd} {t n : Int} {g g1 g2 g3 : Nat} (h : FCtx w p a t n g g1 g2 g3) (e : Ext w w') : FCtx w' p a t n g g1 g2 g3 :=
  ⟨h.P.ext e, h.bp.ext e, h.bt.ext e, h.bn.ext e, h.bb.ext e⟩
section
variable {w : World} {p : Prog} {a : PAd} {t n : Int} {g g1 g2 g3 : Nat}
theorem field3_spec (h : FCtx w p a t n g g1 g2 g3) : CallsV Tryd.prog 51 #[bptr g2] w fun r w' => r = .bool (decide (n = 0)) ∧ Ext w w' := by
  refine code_field_3.calls okay ?_
  unfold code_field_3.W
  exact ⟨_, h.bn.cell0 rfl, rfl, .refl _ _⟩
theorem field4_spec (h : FCtx w p a t n g g1 g2 g3) : CallsV Tryd.prog 52 #[bptr g2, bptr g1, bptr g] w fun r w' => r = .bool (decide (t < n) && decide (n < p.code.length)) ∧ Ext w w' := by
  refine code_field_4.calls okay ?_
  unfold code_field_4.W
  refine ⟨_, h.bn.cell0 rfl, _, h.bt.cell0 rfl, brd (fun hq => ?_) (fun hq => ?_)⟩
  · exact ⟨_, h.bn.cell0 rfl, _, _, _, h.bp.cell rfl, by simp [hq], .refl _ _⟩
  · exact ⟨by simp [hq], .refl _ _⟩
theorem field5_spec (h : FCtx w p a t n g g1 g2 g3) : CallsV Tryd.prog 53 #[bptr g2, bptr g1] w fun r w' => r = .bool (decide (1 ≤ n) && decide (n ≤ t)) ∧ Ext w w' := by
  refine code_field_5.calls okay ?_
  unfold code_field_5.W
  refine ⟨_, h.bn.cell0 rfl, brd (fun hq => ?_) (fun hq => ?_)⟩
  · exact ⟨_, h.bn.cell0 rfl, _, h.bt.cell0 rfl, by simp [hq], .refl _ _⟩
  · exact ⟨by simp [hq], .refl _ _⟩
theorem field6_spec (h : FCtx w p a t n g g1 g2 g3) : CallsV Tryd.prog 54 #[bptr g2, bptr g] w fun r w' => r = .bool (decide (1 ≤ n) && decide (n ≤ p.regs)) ∧ Ext w w' := by
  refine code_field_6.calls okay ?_
  unfold code_field_6.W
  refine ⟨_, h.bn.cell0 rfl, brd (fun hq => ?_) (fun hq => ?_)⟩
  · exact ⟨_, h.bn.cell0 rfl, _, h.bp.cell rfl, by simp [hq], .refl _ _⟩
  · exact ⟨by simp [hq], .refl _ _⟩
theorem field7_spec (u : World) (c : Cur) : CallsV Tryd.prog 55 #[.agg #[.string c.name, .bool c.ix, .bool c.wr]] u fun r w' => r = .bool c.ix ∧ Ext u w' := by
  refine code_field_7.calls okay ?_
  unfold code_field_7.W
  intro g w' f
  exact ⟨_, f.blk.cell rfl, rfl, f.ext⟩
theorem field8_spec (u : World) (c : Cur) : CallsV Tryd.prog 56 #[.agg #[.string c.name, .bool c.ix, .bool c.wr]] u fun r w' => r = .bool (!c.ix) ∧ Ext u w' := by
  refine code_field_8.calls okay ?_
  unfold code_field_8.W
  intro g w' f
  exact ⟨_, f.blk.cell rfl, rfl, f.ext⟩
theorem field9_spec (u : World) (c : Cur) : CallsV Tryd.prog 57 #[.agg #[.string c.name, .bool c.ix, .bool c.wr]] u fun r w' => r = .bool (!c.ix && c.wr) ∧ Ext u w' := by
  refine code_field_9.calls okay ?_
  unfold code_field_9.W
  intro g w' f
  refine ⟨_, f.blk.cell rfl, ?_⟩
  cases hx : c.ix with
  | true => exact ⟨by simp, f.ext⟩
  | false => exact ⟨_, f.blk.cell rfl, by simp, f.ext⟩
/-- what is asked of a cursor -/
def AsksC (f : FuncId) (q : Cur → Bool) : Prop := bodied Tryd.prog f = true ∧ ∀ (u : World) (c : Cur), CallsV Tryd.prog f #[.agg #[.string c.name, .bool c.ix, .bool c.wr]] u fun r w' => r = .bool (q c) ∧ Ext u w'
theorem cursor_spec (u : World) (f : FuncId) :
    CallsV Tryd.prog 49 #[.func (.func f) #[] #[], bptr g3, bptr g, bptr g2] u fun r w' => ∃ k, r = .func (.func 50) #[] #[bptr g3, bptr g, bptr k, bptr g2] ∧ Blk w' k [.func (.func f) #[] #[]] ∧ Ext u w' := by
  refine code_field_2.calls okay ?_
  unfold code_field_2.W
  refine ⟨rfl, fun k w' f => ?_⟩
  exact ⟨k, rfl, f.blk, f.ext⟩
theorem cursor1_spec (h : FCtx w p a t n g g1 g2 g3) {f : FuncId} {q : Cur → Bool} (hq : AsksC f q) {k : Nat} (bk : Blk w k [.func (.func f) #[] #[]]) :
    CallsV Tryd.prog 50 #[bptr g3, bptr g, bptr k, bptr g2] w fun r w' => r = .bool (below n p.curs.length && q (curAt p n)) ∧ Ext w w' := by
  refine code_field_2_1.calls okay ?_
  unfold code_field_2_1.W
  refine ⟨fun u => Ext w u, Fr.drew NoB w, _, fun u e => (h.ext e).bb.cell0 rfl, _, _, _, fun u e => (h.ext e).bp.cell rfl, _, _, _, rfl, by kernel_rfl, ?_⟩
  refine (below_spec _ g2 p.curs.length).mono ?_
  rintro _ u ⟨k1, rfl, bk1, e1⟩
  have e1 : Ext w u := (Fr.drew NoB w).ext e1
  refine ⟨_, rfl, e1, _, _, _, rfl, by kernel_rfl, ?_⟩
  refine (below1_spec (h.ext e1).bn bk1).mono ?_
  rintro _ u2 ⟨rfl, e2⟩
  have e2 := e1.trans' e2
  refine ⟨_, rfl, e2, ?_⟩
  cases hb : below n p.curs.length with
  | false => rw [cond_false]; exact ⟨rfl, e2⟩
  | true =>
    rw [cond_true]
    simp only [below, Bool.and_eq_true, decide_eq_true_eq] at hb
    have hlt : n.toNat < p.curs.length := by omega
    obtain ⟨ad, hA, cs, hrep, hc⟩ := h.P.curs.get1 hlt
    have hcs : cs = [.string p.curs[n.toNat].name, .bool p.curs[n.toNat].ix, .bool p.curs[n.toNat].wr] := hrep
    subst hcs
    have hcur : curAt p n = p.curs[n.toNat] := by simp [curAt, hlt]
    have cell : ∀ (u : World), Ext w u → ∀ (j : Nat) (v : Value), [Value.string p.curs[n.toNat].name, .bool p.curs[n.toNat].ix, .bool p.curs[n.toNat].wr][j]? = some v → u.cell? ((ad.add (n.toNat * 3)).add j) = some v := fun u e j v hv => by
      rw [add_add]; exact e.cell (fun h => h) (hc j v hv)
    refine ⟨fun u => Ext w u, e2, _, fun u e => (bk.ext e).cell0 rfl, _, _, _, fun u e => (h.ext e).bp.cell rfl, _, fun u e => (h.ext e).bn.cell0 rfl, ad, hA, ⟨hb.1, hb.2⟩, _, fun u e => cell u e 0 _ rfl, _, fun u e => cell u e 1 _ rfl, _, fun u e => cell u e 2 _ rfl, f, _, _, rfl, hq.1, ?_⟩
    refine (hq.2 u2 p.curs[n.toNat]).mono ?_
    rintro _ u3 ⟨rfl, e3⟩
    have e3 := e2.trans' e3
    exact ⟨_, rfl, e3, e3, by rw [hcur]; rfl, e3⟩
theorem field10_spec (h : FCtx w p a t n g g1 g2 g3) : CallsV Tryd.prog 58 #[bptr g3, bptr g, bptr g2] w fun r w' => r = .bool (below n p.consts.length && decide ((constAt p n).k = 2)) ∧ Ext w w' := by
  refine code_field_10.calls okay ?_
  unfold code_field_10.W
  refine ⟨_, h.bb.cell0 rfl, _, _, _, h.bp.cell rfl, _, _, _, rfl, by kernel_rfl, ?_⟩
  refine (below_spec _ g2 p.consts.length).mono ?_
  rintro _ u ⟨k1, rfl, bk1, e1⟩
  refine ⟨_, rfl, _, _, _, rfl, by kernel_rfl, ?_⟩
  refine (below1_spec (h.ext e1).bn bk1).mono ?_
  rintro _ u2 ⟨rfl, e2⟩
  have e2 := e1.trans' e2
  refine ⟨_, rfl, ?_⟩
  cases hb : below n p.consts.length with
  | false => rw [cond_false]; exact ⟨rfl, e2⟩
  | true =>
    rw [cond_true]
    simp only [below, Bool.and_eq_true, decide_eq_true_eq] at hb
    have hlt : n.toNat < p.consts.length := by omega
    obtain ⟨ad, hA, cs, hrep, hc⟩ := h.P.consts.get1 hlt
    have hcs : cs = vc p.consts[n.toNat] := hrep
    subst hcs
    have hcur : constAt p n = p.consts[n.toNat] := by simp [constAt, hlt]
    exact ⟨_, _, _, (h.ext e2).bp.cell rfl, _, (h.ext e2).bn.cell0 rfl, ad, hA, ⟨hb.1, hb.2⟩, _, by rw [add_add]; exact e2.cell (fun h => h) (hc 0 _ rfl), by rw [hcur]; rfl, e2⟩
end
end Go.Proofs.YtaifphjenebgoaaDoor
/- Layer 15 (code): may a number be what a letter says. (Printed in part by gen7.py.) -/
set_option linter.unusedVariables false
set_option linter.unusedSimpArgs false
namespace Go.Proofs.YtaifphjenebgoaaDoor
open Go Go.Sx R1 K15
theorem getM_setM {α : Type} [DecidableEq α] (a : α) (v : Value) (c : α) : ∀ l : List (α × Value), getM (setM l a v) c = if c = a then some v else getM l c
  | [] => by simp only [setM, getM]
  | (x, u) :: l => by
    by_cases h : a = x
    · subst h
      by_cases hc : c = a <;> simp [setM, getM, hc]
    · rw [setM, if_neg h, getM, getM, getM_setM a v c l]
      by_cases hc : c = x
      · subst hc
        rw [if_pos rfl, if_pos rfl, if_neg (fun e => h e.symm)]
      · rw [if_neg hc, if_neg hc]
/-- a function value that answers b, as long as one block stays as it is -/
def AnsF (w1 u : World) (v : Value) (b : Bool) : Prop :=
  ∃ (fid : FuncId) (captured : Array Value) (k : Nat) (cur : List Value), v = .func (.func fid) #[] captured ∧ bodied Tryd.prog fid = true ∧ Blk u k cur ∧
    ∀ u', Ext w1 u' → Blk u' k cur → CallsV Tryd.prog fid captured u' fun r w' => r = .bool b ∧ Ext u' w'
theorem AnsF.keep {w1 u u' : World} {v : Value} {b : Bool} {S : Nat → Prop} (h : AnsF w1 u v b) (f : Fr S u u') (hS : ∀ k cur, Blk u k cur → ¬ S k) : AnsF w1 u' v b := by
  obtain ⟨fid, cap, k, cur, h1, h2, h3, h4⟩ := h
  exact ⟨fid, cap, k, cur, h1, h2, h3.keep f (hS k cur h3), h4⟩
theorem AnsF.ext {w1 u u' : World} {v : Value} {b : Bool} (h : AnsF w1 u v b) (e : Ext u u') : AnsF w1 u' v b := h.keep e fun _ _ _ h => h
abbrev kf : Int → Value := fun a => Value.int .u8 a
theorem mapk_apart {u : World} {M : Nat} {l : List (Int × Value)} (h : MapK kf u M l) (k : Nat) (cur : List Value) (hb : Blk u k cur) : ¬ (k = M) := by
  rintro rfl
  obtain ⟨es, c, h1, _⟩ := h
  obtain ⟨e, h2⟩ := hb
  rw [h1] at h2; cases h2
/-- what is so behind each of the operations -/
def GF (w1 : World) (ans : Int → Bool) (calls : List (Nat × Nat × Int)) (ins : List (Nat × Int)) (D : Nat → Bool) (ν : Nat → Value) (u : World) : Prop :=
  Ext w1 u ∧ (∀ p ∈ calls, D p.1 = true → AnsF w1 u (ν p.2.1) (ans p.2.2)) ∧ (∀ p ∈ ins, D p.1 = true → D 0 = true) ∧
  (D 0 = true → ∃ M l, ν 14 = .map (some M) ∧ w1.heap.size ≤ M ∧ MapK kf u M l ∧ (∀ c v, getM l c = some v → AnsF w1 u v (ans c)) ∧ ∀ p ∈ ins, D p.1 = true → (getM l p.2).isSome = true)
theorem setD_ne {D : Nat → Bool} {i j : Nat} (h : j ≠ i) : setD D i j = D j := by
  have : Nat.beq j i = false := by cases hb : Nat.beq j i with | false => rfl | true => exact absurd (Nat.eq_of_beq_eq_true hb) h
  simp [setD, this]
theorem setD_eq {D : Nat → Bool} {i : Nat} : setD D i i = true := by simp [setD]
theorem setD_case {D : Nat → Bool} {i j : Nat} (h : setD D i j = true) : j = i ∨ (j ≠ i ∧ D j = true) := by
  by_cases hj : j = i
  · exact .inl hj
  · rw [setD_ne hj] at h; exact .inr ⟨hj, h⟩
theorem setNuV_ne {ν : Nat → Value} {d t : Nat} {v : Value} (h : t ≠ d) : setNuV ν (some d) v t = ν t := by
  have : Nat.beq t d = false := by cases hb : Nat.beq t d with | false => rfl | true => exact absurd (Nat.eq_of_beq_eq_true hb) h
  simp [setNuV, this]
theorem setNuV_eq {ν : Nat → Value} {d : Nat} {v : Value} : setNuV ν (some d) v d = v := by simp [setNuV]
theorem keyLet : KeyF Tryd.prog 5 (.int .u8) kf := keyInt (by kernel_rfl)
theorem mapLet : und Tryd.prog 96 = some (.map 5 33) := by kernel_rfl
def tcalls : List (Nat × Nat × Int) := [(6, 19, 114), (12, 24, 107), (17, 28, 98), (23, 33, 115), (29, 38, 116), (35, 43, 99), (38, 45, 50), (41, 47, 49), (44, 49, 102), (47, 51, 120), (56, 56, 105), (59, 58, 108), (62, 60, 119)]
def tins : List (Nat × Int) := [(2, 45), (7, 114), (13, 107), (18, 98), (24, 115), (30, 116), (36, 99), (39, 50), (42, 49), (45, 102), (48, 120), (50, 106), (52, 110), (54, 109), (57, 105), (60, 108), (63, 119), (65, 113)]
section
variable {w1 : World} {ans : Int → Bool} {D : Nat → Bool} {ν : Nat → Value} {u : World}
theorem tc_ne : ∀ p ∈ tcalls, p.1 ≠ 0 ∧ p.2.1 ≠ 14 := by decide
theorem ti_ne : ∀ p ∈ tins, p.1 ≠ 0 := by decide
theorem G_map (h : GF w1 ans tcalls tins D ν u) (h0 : D 0 = false) : GF w1 ans tcalls tins (setD D 0) (setNuV ν (some 14) (.map (some u.heap.size))) (u.alloc (.map #[] 0)) := by
  have e : Ext u (u.alloc (.map #[] 0)) := Fr.alloc NoB _ _
  refine ⟨h.1.trans' e, fun p hp hd => ?_, fun _ _ _ => setD_eq, fun _ => ⟨_, [], setNuV_eq, h.1.size, MapK.new _ _, fun c v hv => (by cases hv), fun p hp hd => ?_⟩⟩
  · obtain ⟨n1, n2⟩ := tc_ne p hp
    rw [setD_ne n1] at hd
    rw [setNuV_ne n2]
    exact (h.2.1 p hp hd).ext e
  · rw [setD_ne (ti_ne p hp)] at hd
    have := h.2.2.1 p hp hd
    rw [h0] at this; cases this
theorem G_call {i t : Nat} {c : Int} (hm : (∀ p ∈ tcalls, (p.1 = i → p.2.1 = t) ∧ (p.2.1 = t → p.2.2 = c)) ∧ (∀ p ∈ tins, p.1 ≠ i)) (hn : i ≠ 0 ∧ t ≠ 14) (h : GF w1 ans tcalls tins D ν u) {u' : World} (e : Ext u u') {v : Value} (ha : AnsF w1 u' v (ans c)) :
    GF w1 ans tcalls tins (setD D i) (setNuV ν (some t) v) u' := by
  refine ⟨h.1.trans' e, fun p hp hd => ?_, fun p hp hd => ?_, fun hd => ?_⟩
  · obtain ⟨m1, m2⟩ := hm.1 p hp
    by_cases ht : p.2.1 = t
    · rw [ht, setNuV_eq, m2 ht]; exact ha
    · rw [setNuV_ne ht]
      rcases setD_case hd with hi | ⟨_, hd⟩
      · exact absurd (m1 hi) ht
      · exact (h.2.1 p hp hd).ext e
  · rw [setD_ne (hm.2 p hp)] at hd
    rw [setD_ne (fun e => hn.1 e.symm)]
    exact h.2.2.1 p hp hd
  · rw [setD_ne (fun e => hn.1 e.symm)] at hd
    obtain ⟨M, l, h1, h2, h3, h4, h5⟩ := h.2.2.2 hd
    refine ⟨M, l, by rw [setNuV_ne (fun e => hn.2 e.symm)]; exact h1, h2, h3.ext e, fun c v hv => (h4 c v hv).ext e, fun p hp hd => h5 p hp ?_⟩
    rw [setD_ne (hm.2 p hp)] at hd; exact hd
theorem G_ins {i : Nat} {c : Int} (hm : (∀ p ∈ tins, p.1 = i → p.2 = c) ∧ ∀ p ∈ tcalls, p.1 ≠ i) (hn : i ≠ 0) (h : GF w1 ans tcalls tins D ν u) (h0 : D 0 = true) {v : Value} (ha : AnsF w1 u v (ans c)) :
    ∃ M, ν 14 = .map M ∧ ∃ w', RunsTo Tryd.prog (Instr.mapUpdate 96 (.map M) (.int .u8 c) v) u () w' ∧ GF w1 ans tcalls tins (setD D i) (setNuV ν none undef) w' := by
  obtain ⟨M, l, h1, h2, h3, h4, h5⟩ := h.2.2.2 h0
  obtain ⟨w', hr, hm', hf⟩ := h3.update keyLet mapLet c v
  have hap := mapk_apart h3
  refine ⟨_, h1, w', hr, h.1.trans hf (fun _ _ h => h) (fun k hk e => absurd hk (by omega)), fun p hp hd => ?_, fun p hp hd => ?_, fun _ => ⟨M, _, h1, h2, hm', fun c' v' hv => ?_, fun p hp hd => ?_⟩⟩
  · rw [setD_ne (hm.2 p hp)] at hd
    exact (h.2.1 p hp hd).keep hf hap
  · rw [setD_ne (fun e => hn e.symm)]; exact h0
  · rw [getM_setM] at hv
    split at hv
    · rename_i e; cases hv; subst e; exact ha.keep hf hap
    · exact (h4 c' v' hv).keep hf hap
  · rw [getM_setM]
    by_cases hpc : p.2 = c
    · rw [if_pos hpc]; rfl
    · rw [if_neg hpc]
      rcases setD_case hd with hi | ⟨_, hd⟩
      · exact absurd (hm.1 p hp hi) hpc
      · exact h5 p hp hd
end
section
variable {w1 : World} {p : Prog} {a : PAd} {t n : Int} {g g1 g2 g3 : Nat}
theorem ans_below (hc : FCtx w1 p a t n g g1 g2 g3) {u : World} (e : Ext w1 u) {k : Nat} {high : Int} (bk : Blk u k [.int .i64 high]) {b : Bool} (hb : b = below n high) :
    AnsF w1 u (.func (.func 48) #[] #[bptr g2, bptr k]) b :=
  ⟨_, _, k, _, rfl, by kernel_rfl, bk, fun u' e' b' => by rw [hb]; exact below1_spec (hc.ext e').bn b'⟩
theorem ans_cur (hc : FCtx w1 p a t n g g1 g2 g3) {u : World} (e : Ext w1 u) {f : FuncId} {q : Cur → Bool} (hq : AsksC f q) {k : Nat} (bk : Blk u k [.func (.func f) #[] #[]]) {b : Bool} (hb : b = (below n p.curs.length && q (curAt p n))) :
    AnsF w1 u (.func (.func 50) #[] #[bptr g3, bptr g, bptr k, bptr g2]) b :=
  ⟨_, _, k, _, rfl, by kernel_rfl, bk, fun u' e' b' => by rw [hb]; exact cursor1_spec (hc.ext e') hq b'⟩
end
theorem letters_in : ∀ l ∈ letters, ∃ q ∈ tins, q.2 = l := by decide
set_option maxRecDepth 10000 in
theorem field_spec {w : World} {p : Prog} {a : PAd} (h : PIm w p a) (t l n : Int) (hl : l ∈ letters) :
    CallsV Tryd.prog 20 #[pagg p a, .int .i64 t, .int .u8 l, .int .i64 n] w fun r w' => r = .bool (fieldP p t l n) ∧ Ext w w' := by
  refine code_field.calls okay ?_
  unfold code_field.W
  intro g wa fa g1 wb fb g2 wc fc g3 wd fd
  refine ⟨rfl, rfl, fd.blk.stOK [_] 0 (by simp), fun w1 hw1 => ?_⟩
  have ed : Ext wc wd := fd.ext
  have hc : FCtx w1 p a t n g g1 g2 g3 := by
    have k1 : ∀ {k : Nat} {cur : List Value}, Blk wc k cur → Blk w1 k cur := fun {k cur} b => by
      rw [hw1]
      exact (b.ext ed).keep (Fr.setAll (g := g3) (o := 0) _ 0 wd) (fun e => by have := fd.ge; have := b.lt; omega)
    refine ⟨?_, k1 ((fa.blk.ext fb.ext).ext fc.ext), k1 (fb.blk.ext fc.ext), k1 fc.blk, ?_⟩
    · rw [hw1]
      exact h.ext (Ext.setAll (((fa.ext.trans' fb.ext).trans' fc.ext).trans' ed) (Nat.le_trans (((fa.ext.trans' fb.ext).trans' fc.ext).size) fd.ge) _ _)
    · rw [hw1]; exact Blk.setAll (o := 0) [_] 0 fd.blk
  have e0 : Ext w w1 := by rw [hw1]; exact Ext.setAll (((fa.ext.trans' fb.ext).trans' fc.ext).trans' ed) (Nat.le_trans (((fa.ext.trans' fb.ext).trans' fc.ext).size) fd.ge) _ _
  clear hw1 fa fb fc fd ed
  refine ⟨fun u => Ext w1 u, Fr.drew NoB w1, _, fun u e => (hc.ext e).bb.cell0 rfl, _, fun u e => (hc.ext e).bp.cell rfl, _, fun u e => (hc.ext e).bb.cell0 rfl, _, _, _, fun u e => (hc.ext e).bp.cell rfl, _, fun u e => (hc.ext e).bb.cell0 rfl, _, fun u e => (hc.ext e).bp.cell rfl,
    _, fun u e => (hc.ext e).bb.cell0 rfl, _, _, _, fun u e => (hc.ext e).bp.cell rfl, _, fun u e => (hc.ext e).bb.cell0 rfl, _, _, _, fun u e => (hc.ext e).bp.cell rfl, _, fun u e => (hc.ext e).bb.cell0 rfl, _, _, _, fun u e => (hc.ext e).bp.cell rfl,
    _, fun u e => (hc.ext e).bb.cell0 rfl, _, fun u e => (hc.ext e).bb.cell0 rfl, _, fun u e => (hc.ext e).bb.cell0 rfl, _, fun u e => (hc.ext e).bb.cell0 rfl, GF w1 (fun c => fieldP p t c n) tcalls tins, ?_, fun D ν u hG => hG.1, ?_, ?_⟩
  · intro ν
    exact ⟨Fr.drew NoB w1, fun _ _ h => (by cases h), fun _ _ h => (by cases h), fun h => (by cases h)⟩
  · refine ⟨?_, ?_, ?_, ?_, ?_, ?_, ?_, ?_, ?_, ?_, ?_, ?_, ?_, ?_, ?_, ?_, ?_, ?_, ?_, ?_, ?_, ?_, ?_, ?_, ?_, ?_, ?_, ?_, ?_, ?_, ?_, ?_⟩
    · intro D ν u hG h0
      exact ⟨_, _, makeMap_run _ _, G_map hG h0⟩
    · intro D ν u hG _ h0
      exact G_ins (i := 2) (c := 45) (by decide) (by decide) hG h0 ⟨_, _, _, _, rfl, by kernel_rfl, (hc.ext hG.1).bn, fun u e _ => by
        refine (field3_spec (hc.ext e)).mono ?_
        rintro r w' ⟨rfl, e1⟩
        exact ⟨by simp [fieldP], e1⟩⟩
    · intro D ν u hG h0
      refine ⟨_, _, _, rfl, by kernel_rfl, (below_spec u g2 _).mono ?_⟩
      rintro _ u1 ⟨k, rfl, bk, e⟩
      exact ⟨_, rfl, G_call (i := 6) (t := 19) (c := 114) (by decide) (by decide) hG e (ans_below hc (hG.1.trans' e) bk (by simp [fieldP]))⟩
    · intro D ν u hG _ h0 h1
      exact G_ins (i := 7) (c := 114) (by decide) (by decide) hG h0 (hG.2.1 (6, 19, 114) (by decide) h1)
    · intro D ν u hG h0 _
      refine ⟨_, _, _, rfl, by kernel_rfl, (below_spec u g2 _).mono ?_⟩
      rintro _ u1 ⟨k, rfl, bk, e⟩
      exact ⟨_, rfl, G_call (i := 12) (t := 24) (c := 107) (by decide) (by decide) hG e (ans_below hc (hG.1.trans' e) bk (by simp [fieldP]))⟩
    · intro D ν u hG _ h0 h1
      exact G_ins (i := 13) (c := 107) (by decide) (by decide) hG h0 (hG.2.1 (12, 24, 107) (by decide) h1)
    · intro D ν u hG h0 _
      refine ⟨_, _, _, rfl, by kernel_rfl, (below_spec u g2 _).mono ?_⟩
      rintro _ u1 ⟨k, rfl, bk, e⟩
      exact ⟨_, rfl, G_call (i := 17) (t := 28) (c := 98) (by decide) (by decide) hG e (ans_below hc (hG.1.trans' e) bk (by simp [fieldP]))⟩
    · intro D ν u hG _ h0 h1
      exact G_ins (i := 18) (c := 98) (by decide) (by decide) hG h0 (hG.2.1 (17, 28, 98) (by decide) h1)
    · intro D ν u hG h0 _
      refine ⟨_, _, _, rfl, by kernel_rfl, (below_spec u g2 _).mono ?_⟩
      rintro _ u1 ⟨k, rfl, bk, e⟩
      exact ⟨_, rfl, G_call (i := 23) (t := 33) (c := 115) (by decide) (by decide) hG e (ans_below hc (hG.1.trans' e) bk (by simp [fieldP]))⟩
    · intro D ν u hG _ h0 h1
      exact G_ins (i := 24) (c := 115) (by decide) (by decide) hG h0 (hG.2.1 (23, 33, 115) (by decide) h1)
    · intro D ν u hG h0 _
      refine ⟨_, _, _, rfl, by kernel_rfl, (below_spec u g2 _).mono ?_⟩
      rintro _ u1 ⟨k, rfl, bk, e⟩
      exact ⟨_, rfl, G_call (i := 29) (t := 38) (c := 116) (by decide) (by decide) hG e (ans_below hc (hG.1.trans' e) bk (by simp [fieldP]))⟩
    · intro D ν u hG _ h0 h1
      exact G_ins (i := 30) (c := 116) (by decide) (by decide) hG h0 (hG.2.1 (29, 38, 116) (by decide) h1)
    · intro D ν u hG h0 _
      refine ⟨_, _, _, rfl, by kernel_rfl, (below_spec u g2 _).mono ?_⟩
      rintro _ u1 ⟨k, rfl, bk, e⟩
      exact ⟨_, rfl, G_call (i := 35) (t := 43) (c := 99) (by decide) (by decide) hG e (ans_below hc (hG.1.trans' e) bk (by simp [fieldP]))⟩
    · intro D ν u hG _ h0 h1
      exact G_ins (i := 36) (c := 99) (by decide) (by decide) hG h0 (hG.2.1 (35, 43, 99) (by decide) h1)
    · intro D ν u hG h0 _
      refine ⟨_, _, _, rfl, by kernel_rfl, (below_spec u g2 _).mono ?_⟩
      rintro _ u1 ⟨k, rfl, bk, e⟩
      exact ⟨_, rfl, G_call (i := 38) (t := 45) (c := 50) (by decide) (by decide) hG e (ans_below hc (hG.1.trans' e) bk (by simp [fieldP]))⟩
    · intro D ν u hG _ h0 h1
      exact G_ins (i := 39) (c := 50) (by decide) (by decide) hG h0 (hG.2.1 (38, 45, 50) (by decide) h1)
    · intro D ν u hG h0 _
      refine ⟨_, _, _, rfl, by kernel_rfl, (below_spec u g2 _).mono ?_⟩
      rintro _ u1 ⟨k, rfl, bk, e⟩
      exact ⟨_, rfl, G_call (i := 41) (t := 47) (c := 49) (by decide) (by decide) hG e (ans_below hc (hG.1.trans' e) bk (by simp [fieldP]))⟩
    · intro D ν u hG _ h0 h1
      exact G_ins (i := 42) (c := 49) (by decide) (by decide) hG h0 (hG.2.1 (41, 47, 49) (by decide) h1)
    · intro D ν u hG h0 _
      refine ⟨_, _, _, rfl, by kernel_rfl, (below_spec u g2 _).mono ?_⟩
      rintro _ u1 ⟨k, rfl, bk, e⟩
      exact ⟨_, rfl, G_call (i := 44) (t := 49) (c := 102) (by decide) (by decide) hG e (ans_below hc (hG.1.trans' e) bk (by simp [fieldP]))⟩
    · intro D ν u hG _ h0 h1
      exact G_ins (i := 45) (c := 102) (by decide) (by decide) hG h0 (hG.2.1 (44, 49, 102) (by decide) h1)
    · intro D ν u hG h0 _
      refine ⟨_, _, _, rfl, by kernel_rfl, (below_spec u g2 _).mono ?_⟩
      rintro _ u1 ⟨k, rfl, bk, e⟩
      exact ⟨_, rfl, G_call (i := 47) (t := 51) (c := 120) (by decide) (by decide) hG e (ans_below hc (hG.1.trans' e) bk (by simp [fieldP]))⟩
    · intro D ν u hG _ h0 h1
      exact G_ins (i := 48) (c := 120) (by decide) (by decide) hG h0 (hG.2.1 (47, 51, 120) (by decide) h1)
    · intro D ν u hG _ h0
      exact G_ins (i := 50) (c := 106) (by decide) (by decide) hG h0 ⟨_, _, _, _, rfl, by kernel_rfl, (hc.ext hG.1).bn, fun u e _ => by
        refine (field4_spec (hc.ext e)).mono ?_
        rintro r w' ⟨rfl, e1⟩
        exact ⟨by simp [fieldP], e1⟩⟩
    · intro D ν u hG _ h0
      exact G_ins (i := 52) (c := 110) (by decide) (by decide) hG h0 ⟨_, _, _, _, rfl, by kernel_rfl, (hc.ext hG.1).bn, fun u e _ => by
        refine (field5_spec (hc.ext e)).mono ?_
        rintro r w' ⟨rfl, e1⟩
        exact ⟨by simp [fieldP], e1⟩⟩
    · intro D ν u hG _ h0
      exact G_ins (i := 54) (c := 109) (by decide) (by decide) hG h0 ⟨_, _, _, _, rfl, by kernel_rfl, (hc.ext hG.1).bn, fun u e _ => by
        refine (field6_spec (hc.ext e)).mono ?_
        rintro r w' ⟨rfl, e1⟩
        exact ⟨by simp [fieldP], e1⟩⟩
    · intro D ν u hG h0 _
      refine ⟨_, _, _, rfl, by kernel_rfl, (cursor_spec u _).mono ?_⟩
      rintro _ u1 ⟨k, rfl, bk, e⟩
      exact ⟨_, rfl, G_call (i := 56) (t := 56) (c := 105) (by decide) (by decide) hG e (ans_cur hc (hG.1.trans' e) ⟨by kernel_rfl, field7_spec⟩ bk (by simp [fieldP]))⟩
    · intro D ν u hG _ h0 h1
      exact G_ins (i := 57) (c := 105) (by decide) (by decide) hG h0 (hG.2.1 (56, 56, 105) (by decide) h1)
    · intro D ν u hG h0 _
      refine ⟨_, _, _, rfl, by kernel_rfl, (cursor_spec u _).mono ?_⟩
      rintro _ u1 ⟨k, rfl, bk, e⟩
      exact ⟨_, rfl, G_call (i := 59) (t := 58) (c := 108) (by decide) (by decide) hG e (ans_cur hc (hG.1.trans' e) ⟨by kernel_rfl, field8_spec⟩ bk (by simp [fieldP]))⟩
    · intro D ν u hG _ h0 h1
      exact G_ins (i := 60) (c := 108) (by decide) (by decide) hG h0 (hG.2.1 (59, 58, 108) (by decide) h1)
    · intro D ν u hG h0 _
      refine ⟨_, _, _, rfl, by kernel_rfl, (cursor_spec u _).mono ?_⟩
      rintro _ u1 ⟨k, rfl, bk, e⟩
      exact ⟨_, rfl, G_call (i := 62) (t := 60) (c := 119) (by decide) (by decide) hG e (ans_cur hc (hG.1.trans' e) ⟨by kernel_rfl, field9_spec⟩ bk (by simp [fieldP]))⟩
    · intro D ν u hG _ h0 h1
      exact G_ins (i := 63) (c := 119) (by decide) (by decide) hG h0 (hG.2.1 (62, 60, 119) (by decide) h1)
    · intro D ν u hG _ h0
      exact G_ins (i := 65) (c := 113) (by decide) (by decide) hG h0 ⟨_, _, _, _, rfl, by kernel_rfl, (hc.ext hG.1).bn, fun u e _ => by
        refine (field10_spec (hc.ext e)).mono ?_
        rintro r w' ⟨rfl, e1⟩
        exact ⟨by simp [fieldP], e1⟩⟩
  · intro D ν u d0 d2 d6 d7 d12 d13 d17 d18 d23 d24 d29 d30 d35 d36 d38 d39 d41 d42 d44 d45 d47 d48 d50 d52 d54 d56 d57 d59 d60 d62 d63 d65 hG
    obtain ⟨M, m, h1, h2, h3, h4, h5⟩ := hG.2.2.2 d0
    obtain ⟨q, hq, hql⟩ := letters_in l hl
    have hd : ∀ q ∈ tins, D q.1 = true := fun q hq => by
      simp only [tins, List.mem_cons, List.mem_nil_iff, or_false] at hq
      rcases hq with rfl | rfl | rfl | rfl | rfl | rfl | rfl | rfl | rfl | rfl | rfl | rfl | rfl | rfl | rfl | rfl | rfl | rfl <;> assumption
    have hs := h5 q hq (hd q hq)
    rw [hql] at hs
    obtain ⟨v, hv⟩ := Option.isSome_iff_exists.1 hs
    obtain ⟨_, hr⟩ := h3.look keyLet mapLet l (z := Value.nilFunc) (fun w => by kernel_rfl)
    rw [hv] at hr
    obtain ⟨fid, cap, k, cur, rfl, hb, bk, hcall⟩ := h4 l v hv
    refine ⟨_, h1, _, _, hr, fid, _, _, rfl, hb, ?_⟩
    have := hcall u hG.1 bk
    simp only [List.nil_append, Array.toArray_toList]
    refine this.mono ?_
    rintro _ u' ⟨rfl, e⟩
    exact ⟨_, rfl, rfl, (e0.trans' hG.1).trans' e⟩
end Go.Proofs.YtaifphjenebgoaaDoor
/- Layer 15 (code): what hangs on two numbers of an instruction. -/
set_option linter.unusedVariables false
set_option linter.unusedSimpArgs false
namespace Go.Proofs.YtaifphjenebgoaaDoor
open Go Go.Sx R1 K15
theorem fields_of {p : Prog} {t : Int} {i : Ins} {x y z u : UInt8} (hs : shapeP i.op = [x, y, z, u]) (h : fieldsP p t i = true) :
    fieldP p t x.toNat i.a = true ∧ fieldP p t y.toNat i.b = true ∧ fieldP p t z.toNat i.c = true ∧ fieldP p t u.toNat i.d = true := by
  unfold fieldsP at h
  rw [hs] at h
  simp only [fieldsL, Bool.and_eq_true] at h
  exact h
theorem field_r {p : Prog} {t n : Int} (h : fieldP p t ((114 : UInt8).toNat : Int) n = true) : 0 ≤ n ∧ n < p.regs := by
  have h : fieldP p t 114 n = true := h
  simpa [fieldP, below] using h
theorem field_s {p : Prog} {t n : Int} (h : fieldP p t ((115 : UInt8).toNat : Int) n = true) : 0 ≤ n ∧ n < p.sorts.length := by
  have h : fieldP p t 115 n = true := h
  simpa [fieldP, below] using h
section
variable {w : World} {p : Prog} {a : PAd}
theorem fits_spec {g : Nat} (bp : Blk w g (pcs p a)) {f m : Int} (hr : 0 ≤ p.regs ∧ p.regs ≤ 250) (hf : 0 ≤ f ∧ f < p.regs) :
    CallsV Tryd.prog 59 #[.int .i64 f, .int .i64 m, .pointer (some ⟨g, 0, none⟩)] w fun r w' => r = .bool (fitsP p f m) ∧ w' = w := by
  refine code_runs_1.calls okay ?_
  unfold code_runs_1.W
  exact ⟨_, bp.cell rfl, by rw [wi _ (by omega) (by omega)]; rfl, rfl⟩
theorem insAt_imm (h : PIm w p a) {t : Nat} (ht : t < p.code.length) : ∃ ad, a.dA = some ad ∧ ∀ (u : World), Ext w u → ∀ (j : Nat) (v : Value), [Value.int .u8 p.code[t].op, .int .i64 p.code[t].a, .int .i64 p.code[t].b, .int .i64 p.code[t].c, .int .i64 p.code[t].d][j]? = some v → u.cell? ((ad.add (t * 5)).add j) = some v := by
  obtain ⟨ad, hA, cs, hrep, hc⟩ := h.code.get1 ht
  have hcs : cs = [.int .u8 p.code[t].op, .int .i64 p.code[t].a, .int .i64 p.code[t].b, .int .i64 p.code[t].c, .int .i64 p.code[t].d] := hrep
  subst hcs
  exact ⟨ad, hA, fun u e j v hv => by rw [add_add]; exact e.cell (fun h => h) (hc j v hv)⟩
theorem srtAt_imm (h : PIm w p a) {n : Int} (hn : 0 ≤ n ∧ n < p.sorts.length) : ∃ ad, a.sA = some ad ∧ ∃ A c, ∀ (u : World), Ext w u → ∀ (j : Nat) (v : Value), [Value.slice A (srtAt p n).desc.length c, .int .i64 (srtAt p n).cols, .bool (srtAt p n).dist][j]? = some v → u.cell? ((ad.add (n.toNat * 3)).add j) = some v := by
  have hlt : n.toNat < p.sorts.length := by omega
  obtain ⟨ad, hA, cs, hrep, hc⟩ := h.sorts.get1 hlt
  have e : srtAt p n = p.sorts[n.toNat] := by simp [srtAt, hlt]
  obtain ⟨A, c, hcs, _⟩ := id hrep
  subst hcs
  rw [e]
  exact ⟨ad, hA, A, c, fun u e j v hv => by rw [add_add]; exact e.cell (fun h => h) (hc j v hv)⟩
set_option maxRecDepth 10000 in
theorem runs_spec (h : PIm w p a) (hT : Tab w) {t : Nat} (ht : t < p.code.length) (hr : 0 ≤ p.regs ∧ p.regs ≤ 250) (hf : fieldsP p t p.code[t] = true) :
    CallsV Tryd.prog 21 #[pagg p a, .int .i64 t] w fun r w' => r = .bool (runsP p t p.code[t]) ∧ Ext w w' := by
  refine code_runs.calls okay ?_
  unfold code_runs.W
  intro g wa fa
  obtain ⟨ad, hA, hc⟩ := insAt_imm h ht
  refine ⟨_, _, _, fa.blk.cell rfl, ad, hA, ⟨by omega, by omega⟩, _, by rw [Int.toNat_natCast]; exact hc wa fa.ext 0 _ rfl, _, by rw [Int.toNat_natCast]; exact hc wa fa.ext 1 _ rfl, _, by rw [Int.toNat_natCast]; exact hc wa fa.ext 2 _ rfl,
    _, by rw [Int.toNat_natCast]; exact hc wa fa.ext 3 _ rfl, _, by rw [Int.toNat_natCast]; exact hc wa fa.ext 4 _ rfl, ?_⟩
  intro g1 wb fb
  refine ⟨fb.blk.stOK [_, _, _, _, _] 0 (by simp), fun w1 hw1 => ?_⟩
  have bi : Blk w1 g1 [.int .u8 p.code[t].op, .int .i64 p.code[t].a, .int .i64 p.code[t].b, .int .i64 p.code[t].c, .int .i64 p.code[t].d] := by rw [hw1]; exact Blk.setAll (o := 0) [_, _, _, _, _] 0 fb.blk
  have bp : Blk w1 g (pcs p a) := by
    rw [hw1]; exact (fa.blk.ext fb.ext).keep (Fr.setAll (g := g1) (o := 0) _ 0 wb) (fun e => by have := fb.ge; have := fa.blk.lt; omega)
  have e1 : Ext w w1 := by rw [hw1]; exact Ext.setAll (fa.ext.trans' fb.ext) (Nat.le_trans fa.ext.size fb.ge) _ _
  clear hw1 fa fb hc
  generalize hi : p.code[t] = i at *
  unfold runsP
  refine ⟨_, bi.cell rfl, brd (fun h8 => ?_) (fun h8 => ?_)⟩
  · rw [if_pos h8]
    obtain ⟨q1, q2, q3, q4⟩ := fields_of (x := 114) (y := 114) (z := 109) (u := 102) (by rw [h8]; decide) hf
    refine ⟨_, bi.cell rfl, (Func_spec (hT.ext e1) i.d).mono ?_⟩
    rintro _ u ⟨rfl, e2⟩
    have e := e1.trans' e2
    refine ⟨_, _, rfl, _, (bi.ext e2).cell rfl, brd (fun hq => ?_) (fun hq => ⟨by simp [hq], e⟩)⟩
    refine ⟨_, (bi.ext e2).cell rfl, _, (bi.ext e2).cell rfl, (fits_spec (bp.ext e2) hr (field_r q2)).mono ?_⟩
    rintro _ u' ⟨rfl, hu⟩
    obtain rfl : u = u' := hu.symm
    refine ⟨_, rfl, cbool (fun hq2 => ?_) (fun hq2 => ⟨by simp [hq, hq2], e⟩)⟩
    refine ⟨_, (bi.ext e2).cell rfl, (Known_spec u _ i.c).mono ?_⟩
    rintro _ u' ⟨rfl, hu⟩
    obtain rfl : u = u' := hu.symm
    refine ⟨_, rfl, ?_, e⟩
    rw [hq2, decide_eq_true hq, Bool.true_and, Bool.true_and]
    have : (nth fNames i.d).1 = fnAt i.d := by unfold nth fnAt; split <;> rfl
    rw [this]
  rw [if_neg h8]
  refine brd (fun h12 => ?_) (fun h12 => ?_)
  · rw [if_pos h12]
    obtain ⟨q1, q2, q3, q4⟩ := fields_of (x := 106) (y := 114) (z := 114) (u := 109) (by rw [h12]; decide) hf
    refine ⟨_, bi.cell rfl, _, bi.cell rfl, (fits_spec bp hr (field_r q2)).mono ?_⟩
    rintro _ u' ⟨rfl, hu⟩
    obtain rfl : w1 = u' := hu.symm
    refine ⟨_, rfl, cbool (fun hq2 => ?_) (fun hq2 => ⟨by simp [hq2], e1⟩)⟩
    refine ⟨_, bi.cell rfl, _, bi.cell rfl, (fits_spec bp hr (field_r q3)).mono ?_⟩
    rintro _ u' ⟨rfl, hu⟩
    obtain rfl : w1 = u' := hu.symm
    exact ⟨_, rfl, by simp [hq2], e1⟩
  rw [if_neg h12]
  refine ⟨fun x u => x = decide (i.op = 14 ∨ i.op = 16) ∧ u = w1, ?_, ?_⟩
  rotate_left
  · exact brd (fun h => ⟨by simp [h], rfl⟩) (fun h => ⟨by simp [h], rfl⟩)
  rintro x u ⟨rfl, hu⟩
  obtain rfl : w1 = u := hu.symm
  refine brd (fun h14 => ?_) (fun h14 => ?_)
  · rw [if_pos h14]
    obtain ⟨q1, q2, q3, q4⟩ := fields_of (x := 105) (y := 106) (z := 114) (u := 109) (by rcases h14 with h | h <;> rw [h] <;> decide) hf
    refine ⟨_, bi.cell rfl, _, bi.cell rfl, (fits_spec bp hr (field_r q3)).mono ?_⟩
    rintro _ u' ⟨rfl, hu⟩
    obtain rfl : w1 = u' := hu.symm
    exact ⟨_, rfl, rfl, e1⟩
  rw [if_neg h14]
  refine brd (fun h18 => ?_) (fun h18 => ?_)
  · rw [if_pos h18]
    exact ⟨_, bi.cell rfl, rfl, e1⟩
  rw [if_neg h18]
  refine brd (fun h23 => ?_) (fun h23 => ?_)
  · rw [if_pos h23]
    obtain ⟨q1, q2, q3, q4⟩ := fields_of (x := 114) (y := 115) (z := 120) (u := 45) (by rw [h23]; decide) hf
    have hs := field_s q2
    obtain ⟨ad, hA, A, c, hcell⟩ := srtAt_imm h hs
    exact ⟨fun u => Ext w1 u, Fr.drew NoB w1, _, fun u e => (bi.ext e).cell rfl, _, _, _, fun u e => (bp.ext e).cell rfl, _, fun u e => (bi.ext e).cell rfl, ad, hA, ⟨hs.1, hs.2⟩, _, fun u e => hcell u (e1.trans' e) 1 _ rfl, rfl, e1.drew⟩
  rw [if_neg h23]
  refine brd (fun h20 => ?_) (fun h20 => ?_)
  · rw [if_pos h20]
    obtain ⟨q1, q2, q3, q4⟩ := fields_of (x := 115) (y := 114) (z := 114) (u := 45) (by rw [h20]; decide) hf
    have hs := field_s q1
    obtain ⟨ad, hA, A, c, hcell⟩ := srtAt_imm h hs
    have ed : Ext w1 w1.drew := Fr.drew NoB w1
    refine ⟨fun u => Ext w1 u, ed, _, fun u e => (bi.ext e).cell rfl, _, _, _, fun u e => (bp.ext e).cell rfl, _, fun u e => (bi.ext e).cell rfl, ad, hA, ⟨hs.1, hs.2⟩, _, _, _, fun u e => hcell u (e1.trans' e) 0 _ rfl, (fits_spec (bp.ext ed) hr (field_r q2)).mono ?_⟩
    rintro _ u' ⟨rfl, hu⟩
    obtain rfl : w1.drew = u' := hu.symm
    refine ⟨_, rfl, ed, cbool (fun hq2 => ?_) (fun hq2 => ⟨by simp [hq2], e1.drew⟩)⟩
    refine ⟨fun u => Ext w1 u, ed, _, fun u e => (bi.ext e).cell rfl, _, _, _, fun u e => (bp.ext e).cell rfl, _, fun u e => (bi.ext e).cell rfl, ad, hA, ⟨hs.1, hs.2⟩, _, fun u e => hcell u (e1.trans' e) 1 _ rfl, (fits_spec (bp.ext ed) hr (field_r q3)).mono ?_⟩
    rintro _ u' ⟨rfl, hu⟩
    obtain rfl : w1.drew = u' := hu.symm
    exact ⟨_, rfl, ed, ed, by simp [hq2], e1.drew⟩
  rw [if_neg h20]
  refine brd (fun h27 => ?_) (fun h27 => ?_)
  · rw [if_pos h27]
    obtain ⟨q1, q2, q3, q4⟩ := fields_of (x := 114) (y := 45) (z := 45) (u := 45) (by rw [h27]; decide) hf
    refine ⟨_, bi.cell rfl, _, _, _, bp.cell rfl, (fits_spec bp hr (field_r q1)).mono ?_⟩
    rintro _ u' ⟨rfl, hu⟩
    obtain rfl : w1 = u' := hu.symm
    exact ⟨_, rfl, rfl, e1⟩
  rw [if_neg h27]
  refine ⟨fun x u => x = decide (i.op = 31 ∨ i.op = 32 ∨ i.op = 33 ∨ i.op = 34) ∧ u = w1, ?_, ?_⟩
  · rintro x u ⟨rfl, hu⟩
    obtain rfl : w1 = u := hu.symm
    refine brd (fun h31 => ?_) (fun h31 => ?_)
    · rw [if_pos h31]
      refine brd (fun h0 => ?_) (fun h0 => ⟨by rw [decide_eq_false h0]; rfl, e1⟩)
      exact ⟨_, _, _, bp.cell rfl, by rw [decide_eq_true h0, Bool.true_and]; congr 1; apply decide_eq_decide.2; omega, e1⟩
    · rw [if_neg h31]; exact ⟨rfl, e1⟩
  · refine brd (fun h => ⟨by simp [h], rfl⟩) (fun ha => brd (fun h => ⟨by simp [h], rfl⟩) (fun hb => brd (fun h => ⟨by simp [h], rfl⟩) (fun hc => ⟨by simp [ha, hb, hc], rfl⟩)))
end
end Go.Proofs.YtaifphjenebgoaaDoor
/- Layer 15 (code): Check. -/
set_option linter.unusedVariables false
set_option linter.unusedSimpArgs false
namespace Go.Proofs.YtaifphjenebgoaaDoor
open Go Go.Sx R1 K15
theorem lookS_or (o : Int) : ∀ l : List (Int × List UInt8), lookS l o = [] ∨ ∃ q ∈ l, lookS l o = q.2
  | [] => .inl rfl
  | (k, x) :: r => by
    rw [lookS]
    split
    · exact .inr ⟨(k, x), by simp, rfl⟩
    · rcases lookS_or o r with h | ⟨q, hq, h⟩
      · exact .inl h
      · exact .inr ⟨q, by simp [hq], h⟩
def four : List UInt8 → Bool
  | [x, y, z, u] => letters.contains (x.toNat : Int) && (letters.contains (y.toNat : Int) && (letters.contains (z.toNat : Int) && letters.contains (u.toNat : Int)))
  | _ => false
theorem shapes_four : shapes.all (fun q => four q.2) = true := by decide
theorem shape_four (o : Int) : shapeP o = [] ∨ ∃ x y z u : UInt8, shapeP o = [x, y, z, u] ∧ (x.toNat : Int) ∈ letters ∧ (y.toNat : Int) ∈ letters ∧ (z.toNat : Int) ∈ letters ∧ (u.toNat : Int) ∈ letters := by
  rcases lookS_or o shapes with h | ⟨q, hq, h⟩
  · exact .inl h
  · have e := List.all_eq_true.1 shapes_four q hq
    right
    rw [show shapeP o = q.2 from h]
    generalize q.2 = l at e
    match l, e with
    | [a, b, c, d], e =>
      simp only [four, Bool.and_eq_true, List.contains_iff_mem] at e
      exact ⟨a, b, c, d, rfl, e⟩
theorem bs_get (l : List UInt8) (k : Nat) (b : UInt8) (h : l[k]? = some b) : (bs l)[k]? = some b := by
  obtain ⟨hlt, rfl⟩ := List.getElem?_eq_some_iff.1 h
  have h1 : k < (bs l).size := by simpa [bs, ByteArray.size] using hlt
  rw [getElem?_pos (bs l) k h1]
  congr 1
def nums (i : Ins) : List Int := [i.a, i.b, i.c, i.d]
/-- are the numbers from the k-th on what the letters say? -/
def fieldsFrom (p : Prog) (t : Int) : List UInt8 → List Int → Bool
  | x :: l, n :: r => fieldP p t x.toNat n && fieldsFrom p t l r
  | _, _ => true
theorem fieldsFrom_eq {p : Prog} {t : Int} {i : Ins} {x y z u : UInt8} (h : shapeP i.op = [x, y, z, u]) : fieldsFrom p t [x, y, z, u] (nums i) = fieldsP p t i := by
  unfold fieldsP; rw [h]; simp [fieldsFrom, nums, fieldsL]
section
variable {w : World} {p : Prog} {a : PAd}
theorem okFrom_drop (p : Prog) (l : List Ins) (t : Nat) (h : t < l.length) : okFrom p t (l.drop t) = (okAt p t l[t] && okFrom p (t + 1) (l.drop (t + 1))) := by
  rw [List.drop_eq_getElem_cons h, okFrom]
set_option maxRecDepth 20000 in
theorem Check_spec (h : PIm w p a) (hT : Tab w) : CallsV Tryd.prog 8 #[pagg p a] w fun r w' => r = .int .i64 (if checkP p then 0 else 140) ∧ Ext w w' := by
  refine code_Check.calls okay ?_
  unfold code_Check.W
  intro g wa fa
  have cell : ∀ u, Ext wa u → ∀ (j : Nat) (v : Value), (pcs p a)[j]? = some v → u.cell? ((⟨g, 0, none⟩ : Addr).add j) = some v := fun u e j v hv => (fa.blk.ext e).cell (by simpa using hv)
  have er : Ext wa wa := .refl _ _
  refine ⟨_, cell wa er 0 _ rfl, _, cell wa er 1 _ rfl, _, cell wa er 2 _ rfl, _, _, _, cell wa er 3 _ rfl, _, _, _, cell wa er 4 _ rfl, _, _, _, cell wa er 5 _ rfl, _, _, _, cell wa er 6 _ rfl, _, _, _, cell wa er 7 _ rfl, _, _, _, cell wa er 8 _ rfl,
    (parts_spec (h.ext fa.ext)).mono ?_⟩
  rintro _ w1 ⟨rfl, e1⟩
  have fin : ∀ (b : Bool) (u : World) (x : Int), checkP p = b → Ext wa u → x = (if b then 0 else 140) → (Value.int .i64 x = .int .i64 (if checkP p then 0 else 140) ∧ Ext w u) := fun b u x hb e hx => ⟨by rw [hb, hx], fa.ext.trans' e⟩
  refine ⟨_, rfl, brnb (fun h0 => fin false _ _ (by simp [checkP, h0]) e1 rfl) (fun h0 => ?_)⟩
  refine ⟨_, _, _, cell w1 e1 8 _ rfl, brd (fun h1 => fin false _ _ (by simp [checkP, show ¬ 1 ≤ p.code.length by omega]) e1 rfl) (fun h1 => ?_)⟩
  have h1 : 1 ≤ p.code.length := by omega
  refine ⟨_, _, _, cell w1 e1 8 _ rfl, brd (fun h2 => fin false _ _ (by simp [checkP, show ¬ p.code.length ≤ 4000 by omega]) e1 rfl) (fun h2 => ?_)⟩
  have h2 : p.code.length ≤ 4000 := by omega
  have hlast : p.code.length - 1 < p.code.length := by omega
  obtain ⟨ad, hA, hc⟩ := insAt_imm (h.ext fa.ext) hlast
  have hw : IntKind.i64.wrap ((p.code.length : Int) - 1) = (p.code.length : Int) - 1 := wi _ (by omega) (by omega)
  refine ⟨_, _, _, cell w1 e1 8 _ rfl, _, _, _, cell w1 e1 8 _ rfl, ad, hA, ⟨by rw [hw]; omega, by rw [hw]; omega⟩, _, by rw [hw, show ((p.code.length : Int) - 1).toNat = p.code.length - 1 by omega]; exact hc w1 e1 0 _ rfl, ?_⟩
  have hl : p.code.getD (p.code.length - 1) I0 = p.code[p.code.length - 1] := by simp [List.getD, hlast]
  refine brn (fun h3 => fin false _ _ (by simp only [checkP, hl, decide_eq_false h3]; simp) e1 rfl) (fun h3 => ?_)
  clear hc hA
  have hall : checkP p = okFrom p 0 p.code := by simp only [checkP, hl, h0, decide_eq_true h1, decide_eq_true h2, decide_eq_true h3, Bool.true_and]
  have hr : 0 ≤ p.regs ∧ p.regs ≤ 250 := by
    simp only [partsP, within, Bool.and_eq_true, decide_eq_true_eq] at h0; omega
  refine ⟨_, _, _, cell w1 e1 8 _ rfl, fun x u => ∃ t : Nat, t ≤ p.code.length ∧ x = (t : Int) ∧ checkP p = okFrom p t (p.code.drop t) ∧ Ext wa u, fun x _ => ((p.code.length : Int) - x).toNat, ⟨0, by omega, rfl, by rw [hall]; rfl, e1⟩, ?_⟩
  rintro _ u ⟨t, ht, rfl, hq, e⟩
  refine brd (fun hlt => ?_) (fun hge => ?_)
  rotate_left
  · obtain rfl : t = p.code.length := by omega
    rw [List.drop_length] at hq
    exact fin true _ _ hq e rfl
  have hlt : t < p.code.length := by omega
  rw [okFrom_drop p p.code t hlt] at hq
  obtain ⟨ad, hA, hc⟩ := insAt_imm (h.ext fa.ext) hlt
  refine ⟨ad, hA, ⟨by omega, by omega⟩, _, by rw [Int.toNat_natCast]; exact hc u e 0 _ rfl, _, by rw [Int.toNat_natCast]; exact hc u e 1 _ rfl, _, by rw [Int.toNat_natCast]; exact hc u e 2 _ rfl, _, by rw [Int.toNat_natCast]; exact hc u e 3 _ rfl, _, by rw [Int.toNat_natCast]; exact hc u e 4 _ rfl, ?_⟩
  intro g1 wb fb
  refine ⟨fb.blk.stOK [_, _, _, _, _] 0 (by simp), fun wc hwc => ?_⟩
  have bi : Blk wc g1 [.int .u8 p.code[t].op, .int .i64 p.code[t].a, .int .i64 p.code[t].b, .int .i64 p.code[t].c, .int .i64 p.code[t].d] := by rw [hwc]; exact Blk.setAll (o := 0) [_, _, _, _, _] 0 fb.blk
  have ec : Ext wa wc := by rw [hwc]; exact Ext.setAll (e.trans' fb.ext) (Nat.le_trans e.size fb.ge) _ _
  clear hwc fb hc hA
  generalize hi : p.code[t] = i at *
  refine ⟨_, bi.cell rfl, (shape_spec wc i.op).mono ?_⟩
  rintro _ wd ⟨rfl, ed⟩
  have e' := ec.trans' ed
  refine ⟨_, rfl, ?_⟩
  rcases shape_four i.op with hs | ⟨x, y, z, v, hs, m1, m2, m3, m4⟩
  · rw [hs]
    refine brS (l := []) (l' := []) (fun _ => fin false _ _ ?_ e' rfl) (fun h => absurd rfl h)
    rw [hq]
    simp [okAt, fieldsP, hs, fieldsL]
  rw [hs]
  refine brS (l := [x, y, z, v]) (l' := []) (fun h => by cases h) (fun _ => ?_)
  have bi := bi.ext ed
  refine ⟨_, bi.cell rfl, _, bi.cell rfl, _, bi.cell rfl, _, bi.cell rfl, ?_⟩
  have hfe := fieldsFrom_eq (p := p) (t := (t : Int)) hs
  refine ⟨fun x' u => ∃ k : Nat, k ≤ 4 ∧ x' = (k : Int) ∧ fieldsP p t i = fieldsFrom p t ([x, y, z, v].drop k) ((nums i).drop k) ∧ Ext wa u, fun x' _ => (4 - x').toNat, ⟨0, by omega, rfl, by rw [← hfe]; rfl, e'⟩, ?_⟩
  rintro _ u1 ⟨k, hk, rfl, hf, e2⟩
  have cells : ∀ (Kp : World → Prop), Kp u1 → True := fun _ _ => trivial
  have go : ∀ (k : Nat) (l : UInt8) (n : Int) (u2 : World), [x, y, z, v][k]? = some l → (nums i)[k]? = some n → (l.toNat : Int) ∈ letters → Ext wa u2 → k < 4 → fieldsP p t i = fieldsFrom p t ([x, y, z, v].drop k) ((nums i).drop k) →
      CallsV Tryd.prog 20 #[pagg p a, .int .i64 t, .int .u8 (l.toNat : Int), .int .i64 n] u2 fun r w' => ∃ b, r = .bool b ∧ (b = false → checkP p = false) ∧ (b = true → fieldsP p t i = fieldsFrom p t ([x, y, z, v].drop (k + 1)) ((nums i).drop (k + 1))) ∧ Ext wa w' := by
    intro k l n u2 hl hn hm e3 hk hf
    refine (field_spec ((h.ext fa.ext).ext e3) t l.toNat n hm).mono ?_
    rintro _ u3 ⟨rfl, e4⟩
    obtain ⟨hlt1, rfl⟩ := List.getElem?_eq_some_iff.1 hl
    obtain ⟨hlt2, rfl⟩ := List.getElem?_eq_some_iff.1 hn
    rw [List.drop_eq_getElem_cons hlt1, List.drop_eq_getElem_cons hlt2, fieldsFrom] at hf
    refine ⟨_, rfl, fun hb => ?_, fun hb => ?_, e3.trans' e4⟩
    · rw [hq, okAt, hf, hb]; simp
    · rw [hf, hb, Bool.true_and]
  refine brd (fun hk4 => ?_) (fun hk4 => ?_)
  · refine ⟨⟨by omega, by omega⟩, ?_⟩
    have ez := e2.drew
    have cell' : ∀ u, Ext wa u → ∀ (j : Nat) (v : Value), (pcs p a)[j]? = some v → u.cell? ((⟨g, 0, none⟩ : Addr).add j) = some v := cell
    have rest : ∀ (k : Nat) (l : UInt8) (n : Int) (b0 : Bool), k < 4 → True := fun _ _ _ _ _ => trivial
    refine brd (fun hk0 => ?_) (fun hk0 => brd (fun hk1 => ?_) (fun hk1 => brd (fun hk2 => ?_) (fun hk2 => brd (fun hk3 => ?_) (fun hk3 => by omega))))
    · obtain rfl : k = 0 := by omega
      refine ⟨fun u => Ext wa u, ez, _, fun u e => cell u e 0 _ rfl, _, fun u e => cell u e 1 _ rfl, _, fun u e => cell u e 2 _ rfl, _, _, _, fun u e => cell u e 3 _ rfl, _, _, _, fun u e => cell u e 4 _ rfl, _, _, _, fun u e => cell u e 5 _ rfl, _, _, _, fun u e => cell u e 6 _ rfl, _, _, _, fun u e => cell u e 7 _ rfl, _, _, _, fun u e => cell u e 8 _ rfl,
        _, ⟨by omega, bs_get _ _ x (by rfl)⟩, (go 0 x i.a _ rfl rfl m1 ez (by omega) hf).mono ?_⟩
      rintro _ u3 ⟨b, rfl, hb1, hb2, e3⟩
      refine ⟨_, rfl, brnb (fun hb => fin false _ _ (hb1 hb) e3 rfl) (fun hb => ⟨⟨1, by omega, rfl, hb2 hb, e3⟩, by dsimp only; decide⟩)⟩
    · obtain rfl : k = 1 := by omega
      refine ⟨fun u => Ext wa u, ez, _, fun u e => cell u e 0 _ rfl, _, fun u e => cell u e 1 _ rfl, _, fun u e => cell u e 2 _ rfl, _, _, _, fun u e => cell u e 3 _ rfl, _, _, _, fun u e => cell u e 4 _ rfl, _, _, _, fun u e => cell u e 5 _ rfl, _, _, _, fun u e => cell u e 6 _ rfl, _, _, _, fun u e => cell u e 7 _ rfl, _, _, _, fun u e => cell u e 8 _ rfl,
        _, ⟨by omega, bs_get _ _ y (by rfl)⟩, (go 1 y i.b _ rfl rfl m2 ez (by omega) hf).mono ?_⟩
      rintro _ u3 ⟨b, rfl, hb1, hb2, e3⟩
      refine ⟨_, rfl, brnb (fun hb => fin false _ _ (hb1 hb) e3 rfl) (fun hb => ⟨⟨2, by omega, rfl, hb2 hb, e3⟩, by dsimp only; decide⟩)⟩
    · obtain rfl : k = 2 := by omega
      refine ⟨fun u => Ext wa u, ez, _, fun u e => cell u e 0 _ rfl, _, fun u e => cell u e 1 _ rfl, _, fun u e => cell u e 2 _ rfl, _, _, _, fun u e => cell u e 3 _ rfl, _, _, _, fun u e => cell u e 4 _ rfl, _, _, _, fun u e => cell u e 5 _ rfl, _, _, _, fun u e => cell u e 6 _ rfl, _, _, _, fun u e => cell u e 7 _ rfl, _, _, _, fun u e => cell u e 8 _ rfl,
        _, ⟨by omega, bs_get _ _ z (by rfl)⟩, (go 2 z i.c _ rfl rfl m3 ez (by omega) hf).mono ?_⟩
      rintro _ u3 ⟨b, rfl, hb1, hb2, e3⟩
      refine ⟨_, rfl, brnb (fun hb => fin false _ _ (hb1 hb) e3 rfl) (fun hb => ⟨⟨3, by omega, rfl, hb2 hb, e3⟩, by dsimp only; decide⟩)⟩
    · obtain rfl : k = 3 := by omega
      refine ⟨fun u => Ext wa u, ez, _, fun u e => cell u e 0 _ rfl, _, fun u e => cell u e 1 _ rfl, _, fun u e => cell u e 2 _ rfl, _, _, _, fun u e => cell u e 3 _ rfl, _, _, _, fun u e => cell u e 4 _ rfl, _, _, _, fun u e => cell u e 5 _ rfl, _, _, _, fun u e => cell u e 6 _ rfl, _, _, _, fun u e => cell u e 7 _ rfl, _, _, _, fun u e => cell u e 8 _ rfl,
        _, ⟨by omega, bs_get _ _ v (by rfl)⟩, (go 3 v i.d _ rfl rfl m4 ez (by omega) hf).mono ?_⟩
      rintro _ u3 ⟨b, rfl, hb1, hb2, e3⟩
      refine ⟨_, rfl, brnb (fun hb => fin false _ _ (hb1 hb) e3 rfl) (fun hb => ⟨⟨4, by omega, rfl, hb2 hb, e3⟩, by dsimp only; decide⟩)⟩
  · obtain rfl : k = 4 := by omega
    have hf1 : fieldsP p t i = true := hf
    refine ⟨_, cell u1 e2 0 _ rfl, _, cell u1 e2 1 _ rfl, _, cell u1 e2 2 _ rfl, _, _, _, cell u1 e2 3 _ rfl, _, _, _, cell u1 e2 4 _ rfl, _, _, _, cell u1 e2 5 _ rfl, _, _, _, cell u1 e2 6 _ rfl, _, _, _, cell u1 e2 7 _ rfl, _, _, _, cell u1 e2 8 _ rfl,
      (runs_spec ((h.ext fa.ext).ext e2) (hT.ext (fa.ext.trans' e2)) hlt hr (by rw [hi]; exact hf1)).mono ?_⟩
    rintro _ u3 ⟨rfl, e3⟩
    rw [hi]
    have e3 := e2.trans' e3
    refine ⟨_, rfl, brnb (fun hb => fin false _ _ (by rw [hq, okAt, hb]; simp) e3 rfl) (fun hb => ?_)⟩
    rw [wi _ (by omega) (by omega)]
    refine ⟨⟨t + 1, by omega, by omega, by rw [hq, okAt, hf1, hb]; simp, e3⟩, ?_⟩
    dsimp only; omega
end
end Go.Proofs.YtaifphjenebgoaaDoor
/- Layer 15: what the statements look at; words; the chapter's examples. -/
set_option linter.unusedVariables false
set_option linter.unusedSimpArgs false
namespace Go.Proofs.YtaifphjenebgoaaDoor
open Go Go.Sx R1 K15
abbrev insC (i : Ins) : List Value := [.int .u8 i.op, .int .i64 i.a, .int .i64 i.b, .int .i64 i.c, .int .i64 i.d]
set_option maxRecDepth 10000 in
theorem Great_spec {w : World} {p : Prog} {a : PAd} (h : PIm w p a) : CallsV Tryd.prog 7 #[pagg p a] w fun r w' => ∃ b, r = .bool b ∧ Ext w w' := by
  have m1 := h.l1
  have m2 := h.l2
  have m3 := h.l3
  have m4 := h.l4
  have m5 := h.l5
  simp only [maxLen] at m1 m2 m3 m4 m5
  refine cardindexlaw15_Great.calls okay ?_
  unfold cardindexlaw15_Great.W
  intro g w1 f
  have bp := f.blk
  have h := h.ext f.ext
  have e1 := f.ext
  repeat (first | refine ⟨_, Blk.cell (bp) (by rfl), ?_⟩ | refine ⟨_, _, _, Blk.cell (bp) (by rfl), ?_⟩)
  refine brd (fun _ => ⟨_, rfl, e1⟩) (fun _ => ?_)
  repeat (first | refine ⟨_, Blk.cell (bp) (by rfl), ?_⟩ | refine ⟨_, _, _, Blk.cell (bp) (by rfl), ?_⟩)
  refine brd (fun _ => ⟨_, rfl, e1⟩) (fun _ => ?_)
  repeat (first | refine ⟨_, Blk.cell (bp) (by rfl), ?_⟩ | refine ⟨_, _, _, Blk.cell (bp) (by rfl), ?_⟩)
  refine brd (fun _ => ⟨_, rfl, e1⟩) (fun _ => ?_)
  repeat (first | refine ⟨_, Blk.cell (bp) (by rfl), ?_⟩ | refine ⟨_, _, _, Blk.cell (bp) (by rfl), ?_⟩)
  refine ⟨fun x y u => ∃ k : Nat, k ≤ p.names.length ∧ y = (k : Int) ∧ u = w1, fun x y u => ((p.names.length : Int) - y).toNat, ⟨0, by omega, rfl, rfl⟩, ?_⟩
  rintro x _ u ⟨k, hk, rfl, hu⟩
  obtain rfl : w1 = u := hu.symm
  refine brd (fun hlt => ?_) (fun _ => ?_)
  · repeat (first | refine ⟨_, Blk.cell (bp) (by rfl), ?_⟩ | refine ⟨_, _, _, Blk.cell (bp) (by rfl), ?_⟩)
    obtain ⟨ad, hA, cs, hrep, hc⟩ := h.names.get1 (show k < p.names.length by omega)
    have hcs : cs = [.string p.names[k]] := hrep
    subst hcs
    rw [wi ((k : Int) + 1) (by omega) (by omega)]
    exact ⟨ad, hA, ⟨by omega, by omega⟩, _, hc 0 _ rfl, ⟨k + 1, by omega, by omega, rfl⟩, by dsimp only; omega⟩
  repeat (first | refine ⟨_, Blk.cell (bp) (by rfl), ?_⟩ | refine ⟨_, _, _, Blk.cell (bp) (by rfl), ?_⟩)
  refine ⟨fun x y u => ∃ k : Nat, k ≤ p.consts.length ∧ y = (k : Int) ∧ u = w1, fun x y u => ((p.consts.length : Int) - y).toNat, ⟨0, by omega, rfl, rfl⟩, ?_⟩
  rintro x _ u ⟨k, hk, rfl, hu⟩
  obtain rfl : w1 = u := hu.symm
  refine brd (fun hlt => ?_) (fun _ => ?_)
  · repeat (first | refine ⟨_, Blk.cell (bp) (by rfl), ?_⟩ | refine ⟨_, _, _, Blk.cell (bp) (by rfl), ?_⟩)
    obtain ⟨ad, hA, cs, hrep, hc⟩ := h.consts.get1 (show k < p.consts.length by omega)
    have hcs : cs = vc p.consts[k] := hrep
    subst hcs
    rw [wi ((k : Int) + 1) (by omega) (by omega)]
    exact ⟨ad, hA, ⟨by omega, by omega⟩, _, by rw [add_add]; exact hc 2 _ rfl, ⟨k + 1, by omega, by omega, rfl⟩, by dsimp only; omega⟩
  repeat (first | refine ⟨_, Blk.cell (bp) (by rfl), ?_⟩ | refine ⟨_, _, _, Blk.cell (bp) (by rfl), ?_⟩)
  refine ⟨fun x y u => ∃ k : Nat, k ≤ p.curs.length ∧ y = (k : Int) ∧ u = w1, fun x y u => ((p.curs.length : Int) - y).toNat, ⟨0, by omega, rfl, rfl⟩, ?_⟩
  rintro x _ u ⟨k, hk, rfl, hu⟩
  obtain rfl : w1 = u := hu.symm
  refine brd (fun hlt => ?_) (fun _ => ?_)
  · repeat (first | refine ⟨_, Blk.cell (bp) (by rfl), ?_⟩ | refine ⟨_, _, _, Blk.cell (bp) (by rfl), ?_⟩)
    obtain ⟨ad, hA, cs, hrep, hc⟩ := h.curs.get1 (show k < p.curs.length by omega)
    have hcs : cs = [.string p.curs[k].name, .bool p.curs[k].ix, .bool p.curs[k].wr] := hrep
    subst hcs
    rw [wi ((k : Int) + 1) (by omega) (by omega)]
    exact ⟨ad, hA, ⟨by omega, by omega⟩, _, by rw [add_add]; exact hc 0 _ rfl, ⟨k + 1, by omega, by omega, rfl⟩, by dsimp only; omega⟩
  repeat (first | refine ⟨_, Blk.cell (bp) (by rfl), ?_⟩ | refine ⟨_, _, _, Blk.cell (bp) (by rfl), ?_⟩)
  refine ⟨fun x y u => ∃ k : Nat, k ≤ p.sorts.length ∧ y = (k : Int) ∧ u = w1, fun x y u => ((p.sorts.length : Int) - y).toNat, ⟨0, by omega, rfl, rfl⟩, ?_⟩
  rintro x _ u ⟨k, hk, rfl, hu⟩
  obtain rfl : w1 = u := hu.symm
  refine brd (fun hlt => ?_) (fun _ => ?_)
  · repeat (first | refine ⟨_, Blk.cell (bp) (by rfl), ?_⟩ | refine ⟨_, _, _, Blk.cell (bp) (by rfl), ?_⟩)
    obtain ⟨ad, hA, cs, hrep, hc⟩ := h.sorts.get1 (show k < p.sorts.length by omega)
    obtain ⟨B, d, hcs, _⟩ := id hrep
    subst hcs
    rw [wi ((k : Int) + 1) (by omega) (by omega)]
    exact ⟨ad, hA, ⟨by omega, by omega⟩, _, _, _, by rw [add_add]; exact hc 0 _ rfl, ⟨k + 1, by omega, by omega, rfl⟩, by dsimp only; omega⟩
  repeat (first | refine ⟨_, Blk.cell (bp) (by rfl), ?_⟩ | refine ⟨_, _, _, Blk.cell (bp) (by rfl), ?_⟩)
  refine ⟨fun x y u => ∃ k : Nat, k ≤ p.tots.length ∧ y = (k : Int) ∧ u = w1, fun x y u => ((p.tots.length : Int) - y).toNat, ⟨0, by omega, rfl, rfl⟩, ?_⟩
  rintro x _ u ⟨k, hk, rfl, hu⟩
  obtain rfl : w1 = u := hu.symm
  refine brd (fun hlt => ?_) (fun _ => ⟨_, rfl, e1⟩)
  repeat (first | refine ⟨_, Blk.cell (bp) (by rfl), ?_⟩ | refine ⟨_, _, _, Blk.cell (bp) (by rfl), ?_⟩)
  obtain ⟨ad, hA, cs, hrep, hc⟩ := h.tots.get1 (show k < p.tots.length by omega)
  have hcs : cs = [.string p.tots[k].fn, .bool p.tots[k].dist] := hrep
  subst hcs
  rw [wi ((k : Int) + 1) (by omega) (by omega)]
  exact ⟨ad, hA, ⟨by omega, by omega⟩, _, by rw [add_add]; exact hc 0 _ rfl, ⟨k + 1, by omega, by omega, rfl⟩, by dsimp only; omega⟩
theorem Pick_spec (w : World) (x n : Int) (h1 : 1 ≤ n) (h2 : n ≤ 9223372036854775807) :
    CallsV Tryd.prog 10 #[.int .i64 x, .int .i64 n] w fun r w' => ∃ k : Nat, r = .int .i64 (k : Int) ∧ (k : Int) < n ∧ w' = w := by
  refine cardindexkit_Pick.calls okay ?_
  unfold cardindexkit_Pick.W
  have a1 := Int.lt_tmod_of_pos x (show 0 < n by omega)
  have a2 := Int.tmod_lt_of_pos x (show 0 < n by omega)
  refine brd (fun h => by omega) (fun _ => ⟨by omega, brd (fun h => ?_) (fun h => ?_)⟩)
  · rw [wi _ (by omega) (by omega)]
    exact ⟨(x.tmod n + n).toNat, by congr 1; omega, by omega, rfl⟩
  · exact ⟨(x.tmod n).toNat, by congr 1; omega, by omega, rfl⟩
def oWords : ByteArray := ByteArray.mk #[99, 111, 110, 115, 116, 32, 98, 105, 110, 100, 32, 109, 111, 118, 101, 32, 116, 119, 111, 32, 111, 110, 101, 32, 105, 115, 32, 99, 97, 115, 116, 32, 99, 97, 108, 108, 32, 109, 117, 115, 116, 32, 106, 117, 109, 112, 32, 105, 102, 32, 100, 105, 102, 102, 101, 114, 32, 102, 105, 114, 115, 116, 32, 115, 101, 101, 107, 32, 110, 101, 120, 116, 32, 112, 97, 115, 116, 32, 102, 105, 110, 100, 32, 99, 111, 108, 32, 114, 111, 119, 105, 100, 32, 97, 100, 100, 32, 115, 111, 114, 116, 101, 100, 32, 97, 102, 116, 101, 114, 32, 116, 97, 107, 101, 32, 99, 108, 101, 97, 114, 32, 115, 116, 101, 112, 32, 116, 111, 116, 97, 108, 32, 114, 111, 119, 32, 110, 101, 119, 105, 100, 32, 105, 110, 115, 101, 114, 116, 32, 100, 101, 108, 101, 116, 101, 32, 100, 101, 102, 105, 110, 101, 32, 98, 101, 103, 105, 110, 32, 99, 111, 109, 109, 105, 116, 32, 98, 97, 99, 107, 32, 104, 97, 108, 116]
theorem oField : nth (Lib.fields (sb oWords)) 3 = ([116, 119, 111], true) := by decide +kernel
theorem oAscii : ∀ b ∈ sb oWords, b.toNat < 128 := by decide +kernel
theorem WordTwo_spec {w : World} (hT : Tab w) : CallsV Tryd.prog 14 #[.int .u8 4] w fun r w' => r = .string (bs [116, 119, 111]) ∧ Ext w w' := by
  refine code_Word.calls okay ?_
  unfold code_Word.W
  rw [show IntKind.i64.wrap (IntKind.i64.wrap 4 - 1) = 3 by decide]
  refine (named_spec hT oWords (by decide +kernel) oAscii 3).mono ?_
  rw [oField]
  rintro _ w1 ⟨rfl, e⟩
  exact ⟨_, _, rfl, rfl, e⟩
theorem Itoa_spec (w : World) (i : Nat) (hi : i < 10) : CallsV Tryd.prog 22 #[.int .i64 i] w fun r w' => r = .string (bs [UInt8.ofNat (48 + i)]) ∧ w' = w := by
  refine Calls.mono (Tryd.strconv_Itoa_small i (by omega) w) ?_
  rintro e w' ⟨he, hw⟩
  rw [Lib.decDigits, dif_pos hi] at he
  exact ⟨_, he, rfl, hw⟩
def preS : List (List UInt8) := [[116, 119, 111], [116, 119, 111, 32, 50], [116, 119, 111, 32, 50, 32, 48], [116, 119, 111, 32, 50, 32, 48, 32, 49], [116, 119, 111, 32, 50, 32, 48, 32, 49, 32, 54]]
abbrev iTwo : Ins := ⟨4, 2, 0, 1, 6⟩
theorem ShowTwo_spec {w : World} (hT : Tab w) : CallsV Tryd.prog 11 #[.agg #[.int .u8 4, .int .i64 2, .int .i64 0, .int .i64 1, .int .i64 6]] w fun r w' => r = .string (bs [116, 119, 111, 32, 50, 32, 48, 32, 49, 32, 54]) ∧ Ext w w' := by
  refine code_Show.calls okay ?_
  unfold code_Show.W
  intro g w1 f
  have b : Blk w1 g (insC iTwo) := f.blk
  repeat (first | refine ⟨_, Blk.cell (b) (by rfl), ?_⟩ | refine ⟨_, _, _, Blk.cell (b) (by rfl), ?_⟩)
  refine (WordTwo_spec (hT.ext f.ext)).mono ?_
  rintro _ w2 ⟨rfl, k2⟩
  have e2 := f.ext.trans' k2
  have b := b.ext k2
  clear f
  refine ⟨_, rfl, fun x u => x = bs [116, 119, 111] ∧ u = w2, ?_, brS (fun h => absurd h (by decide)) (fun _ => ⟨rfl, rfl⟩)⟩
  rintro x u ⟨rfl, hu⟩
  subst hu
  repeat (first | refine ⟨_, Blk.cell (b) (by rfl), ?_⟩ | refine ⟨_, _, _, Blk.cell (b) (by rfl), ?_⟩)
  refine ⟨fun x y v => ∃ k : Nat, k ≤ 4 ∧ y = (k : Int) ∧ x = bs (preS.getD k []) ∧ v = u, fun x y v => (4 - y).toNat, ⟨0, by omega, rfl, rfl, rfl⟩, ?_⟩
  rintro x _ v ⟨k, hk, rfl, rfl, hv⟩
  subst hv
  refine brd (fun hlt => ⟨⟨by omega, by omega⟩, ?_⟩) (fun hge => ?_)
  · refine brd (fun h => ?_) (fun n0 => brd (fun h => ?_) (fun n1 => brd (fun h => ?_) (fun n2 => brd (fun h => ?_) (fun n3 => by omega))))
    · obtain rfl : k = 0 := by omega
      refine (Itoa_spec v 2 (by omega)).mono ?_
      rintro _ v1 ⟨rfl, hv⟩
      exact ⟨_, rfl, by decide, by decide, ⟨1, by omega, rfl, rfl, hv⟩, by dsimp only; decide⟩
    · obtain rfl : k = 1 := by omega
      refine (Itoa_spec v 0 (by omega)).mono ?_
      rintro _ v1 ⟨rfl, hv⟩
      exact ⟨_, rfl, by decide, by decide, ⟨2, by omega, rfl, rfl, hv⟩, by dsimp only; decide⟩
    · obtain rfl : k = 2 := by omega
      refine (Itoa_spec v 1 (by omega)).mono ?_
      rintro _ v1 ⟨rfl, hv⟩
      exact ⟨_, rfl, by decide, by decide, ⟨3, by omega, rfl, rfl, hv⟩, by dsimp only; decide⟩
    · obtain rfl : k = 3 := by omega
      refine (Itoa_spec v 6 (by omega)).mono ?_
      rintro _ v1 ⟨rfl, hv⟩
      exact ⟨_, rfl, by decide, by decide, ⟨4, by omega, rfl, rfl, hv⟩, by dsimp only; decide⟩
  · obtain rfl : k = 4 := by omega
    exact ⟨rfl, e2⟩
end Go.Proofs.YtaifphjenebgoaaDoor
/- Layer 15: the chapter's examples. -/
set_option linter.unusedVariables false
set_option linter.unusedSimpArgs false
namespace Go.Proofs.YtaifphjenebgoaaDoor
open Go Go.Sx R1 K15
abbrev hHalt : Ins := ⟨35, 0, 0, 0, 0⟩
abbrev hJump (a : Int) : Ins := ⟨10, a, 0, 0, 0⟩
abbrev hP (l : List Ins) : Prog := ⟨1, 1, 0, [], [], [], [], [], l⟩
abbrev hA (A : Option Addr) (c : Nat) : PAd := ⟨none, 0, none, 0, none, 0, none, 0, none, 0, A, c⟩
theorem hPim {w : World} {A : Option Addr} {c : Nat} {l : List Ins} (h : Imm KIns NoB w A l) (hl : l.length ≤ 2) (hc : l.length ≤ c) : PIm w (hP l) (hA A c) :=
  ⟨Imm.nil _ _ _ _, Imm.nil _ _ _ _, Imm.nil _ _ _ _, Imm.nil _ _ _ _, Imm.nil _ _ _ _, h, Nat.zero_le _, Nat.zero_le _, Nat.zero_le _, Nat.zero_le _, Nat.zero_le _, Nat.le_trans hl (by simp [maxLen]), hc⟩
theorem cellSet {u v : World} {g o : Nat} {x : Value} {cs : List Value} (hb : Blk u g cs) (hv : v = setAll ((⟨g, 0, none⟩ : Addr).add o) 0 [x] u) : Blk v g (cs.set o x) ∧ Fr (fun k => k = g) u v := by
  rw [add_new] at hv
  have h1 : Blk v g (cs.set (0 + o) x) := by rw [hv]; exact Blk.setAll (o := 0 + o) [x] 0 hb
  rw [Nat.zero_add] at h1
  exact ⟨h1, by rw [hv]; exact Fr.setAll _ _ _⟩
theorem cellOK {u : World} {g o : Nat} {x : Value} {cs : List Value} (hb : Blk u g cs) (ho : o < cs.length) : stOK ((⟨g, 0, none⟩ : Addr).add o) 0 [x] u := by
  rw [add_new]; exact hb.stOK (o := 0 + o) [x] 0 (by simp; omega)
theorem two_imm {w w' : World} {g : Nat} {a : Int} {Ω : Nat → Prop} (f : Fresh w g w' [.int .u8 10, .int .i64 a, .int .i64 0, .int .i64 0, .int .i64 0, .int .u8 35, .int .i64 0, .int .i64 0, .int .i64 0, .int .i64 0] 38) (h : ¬ Ω g) : Imm KIns Ω w' (some ⟨g, 0, none⟩) [hJump a, hHalt] :=
  f.imm h KIns_pos rfl (by simp [maxLen]) (by
    intro i a h
    rcases i with _ | _ | i
    · simp at h; subst h; rfl
    · simp at h; subst h; rfl
    · simp at h)
theorem chk0 : checkP (hP [hHalt]) = true := by decide +kernel
theorem chk1 : checkP (hP [hJump 0, hHalt]) = false := by decide +kernel
theorem chk2 : checkP (hP [hJump 1, hHalt]) = true := by decide +kernel
set_option maxRecDepth 20000 in
set_option maxHeartbeats 4000000 in
theorem awake_spec {w : World} (hT : Tab w) : CallsV Tryd.prog 9 #[] w fun r w' => r = .bool true ∧ Ext w w' := by
  refine cardindexlaw15_awake.calls okay ?_
  unfold cardindexlaw15_awake.W
  intro g0 w1 f0 g1 w2 f1
  refine ⟨f1.blk.stOK (pcs (hP [hHalt]) (hA (some ⟨g0, 0, none⟩) 1)) 0 (by simp), fun w3 hw => ?_⟩
  obtain ⟨b1, q⟩ := set0 f1.blk hw rfl
  have z0 := f0.ge
  have z1 := f1.ge
  have z2 := f0.lt
  have e3 : Ext w w3 := (f0.ext.trans' f1.ext).trans q (fun _ _ h => h) (fun k hk e => by have := f0.ext.size; omega)
  have i0 : Imm KIns (fun k => k = g1) w1 (some ⟨g0, 0, none⟩) [hHalt] := f0.imm (fun h => by omega) KIns_pos rfl (by simp [maxLen]) (by
    intro i a h
    rcases i with _ | i
    · simp at h; subst h; rfl
    · simp at h)
  have i0 : Imm KIns NoB w3 (some ⟨g0, 0, none⟩) [hHalt] := (i0.ext KIns_pos f1.ext).keep KIns_pos (q.step (fun _ _ h => h) (fun _ _ h => h.elim))
  clear hw f0 f1 q z0 z1 z2
  refine ⟨fun u => Ext w3 u, Fr.drew NoB w3, ?_⟩
  repeat (first | refine ⟨_, fun u e => Blk.cell (Blk.ext (b1) e) (by rfl), ?_⟩ | refine ⟨_, _, _, fun u e => Blk.cell (Blk.ext (b1) e) (by rfl), ?_⟩)
  refine ⟨?_, ?_⟩
  case' refine_1 =>
    intro gq w4 f4
    have x4 : Ext w3 w4 := Ext.drew0 f4.ext
    refine ⟨x4, ?_⟩
    intro gr w5 f5
    have x5 := x4.trans' f5.ext
    have hq : w3.heap.size ≤ gq := f4.ge
    have hr : w3.heap.size ≤ gr := Nat.le_trans x4.size f5.ge
    have hn : gq ≠ gr := by have := f4.lt; have := f5.ge; omega
    refine ⟨x5, (f4.blk.ext f5.ext).stOK (pcs (hP [hHalt]) (hA (some ⟨g0, 0, none⟩) 1)) 0 (by simp), fun w6 hw6 => ?_⟩
    obtain ⟨bq, q6⟩ := set0 (f4.blk.ext f5.ext) hw6 rfl
    have br := f5.blk.keep q6 (fun e => hn e.symm)
    have x6 : Ext w3 w6 := x5.trans q6 (fun _ _ h => h) (fun k hk e => by omega)
    refine ⟨x6, br.stOK (pcs (hP [hHalt]) (hA (some ⟨g0, 0, none⟩) 1)) 0 (by simp), fun w7 hw7 => ?_⟩
    obtain ⟨br, q7⟩ := set0 br hw7 rfl
    have bq := bq.keep q7 hn
    have x7 : Ext w3 w7 := x6.trans q7 (fun _ _ h => h) (fun k hk e => by omega)
    clear hw7 hw6 q7 q6 x6 x5 f5 x4 f4
  case' refine_2 =>
    intro gr w4 f4
    have x4 : Ext w3 w4 := Ext.drew0 f4.ext
    refine ⟨x4, ?_⟩
    intro gq w5 f5
    have x5 := x4.trans' f5.ext
    have hr : w3.heap.size ≤ gr := f4.ge
    have hq : w3.heap.size ≤ gq := Nat.le_trans x4.size f5.ge
    have hn : gq ≠ gr := by have := f4.lt; have := f5.ge; omega
    refine ⟨x5, f5.blk.stOK (pcs (hP [hHalt]) (hA (some ⟨g0, 0, none⟩) 1)) 0 (by simp), fun w6 hw6 => ?_⟩
    obtain ⟨bq, q6⟩ := set0 f5.blk hw6 rfl
    have br := (f4.blk.ext f5.ext).keep q6 (fun e => hn e.symm)
    have x6 : Ext w3 w6 := x5.trans q6 (fun _ _ h => h) (fun k hk e => by omega)
    refine ⟨x6, br.stOK (pcs (hP [hHalt]) (hA (some ⟨g0, 0, none⟩) 1)) 0 (by simp), fun w7 hw7 => ?_⟩
    obtain ⟨br, q7⟩ := set0 br hw7 rfl
    have bq := bq.keep q7 hn
    have x7 : Ext w3 w7 := x6.trans q7 (fun _ _ h => h) (fun k hk e => by omega)
    clear hw7 hw6 q7 q6 x6 x5 f5 x4 f4
  all_goals
    intro g8 w8 f8
    have y8 := f8.ge
    have l8 := f8.lt
    have lq := bq.lt
    have lr := br.lt
    have sz7 := x7.size
    have i8 : Imm KIns (fun k => k = gq ∨ k = gr) w8 (some ⟨g8, 0, none⟩) [hJump 0, hHalt] := two_imm f8 (fun h => by omega)
    refine ⟨cellOK (bq.ext f8.ext) (by simp), fun w9 hw9 => ?_⟩
    obtain ⟨bq9, q9⟩ := cellSet (bq.ext f8.ext) hw9
    have i9 : Imm KIns (fun k => k = gr) w9 (some ⟨g8, 0, none⟩) [hJump 0, hHalt] := i8.keep KIns_pos (q9.step (fun _ _ h => .inl h) (fun _ _ h => .inr h))
    have br9 := (br.ext f8.ext).keep q9 (fun e => hn e.symm)
    have lr9 := br9.lt
    intro g10 w10 f10
    have y10 := f10.ge
    have i10 : Imm KIns (fun k => k = gr) w10 (some ⟨g10, 0, none⟩) [hJump 1, hHalt] := two_imm f10 (fun h => by omega)
    refine ⟨cellOK (br9.ext f10.ext) (by simp), fun w11 hw11 => ?_⟩
    obtain ⟨br11, q11⟩ := cellSet (br9.ext f10.ext) hw11
    have bq11 := (bq9.ext f10.ext).keep q11 hn
    have x9 : Ext w3 w9 := (x7.trans' f8.ext).trans q9 (fun _ _ h => h) (fun k hk e => by omega)
    have x11 : Ext w3 w11 := (x9.trans' f10.ext).trans q11 (fun _ _ h => h) (fun k hk e => by omega)
    have j1 : Imm KIns NoB w11 (some ⟨g8, 0, none⟩) [hJump 0, hHalt] := (i9.ext KIns_pos f10.ext).keep KIns_pos (q11.step (fun _ _ h => h) (fun _ _ h => h.elim))
    have j2 : Imm KIns NoB w11 (some ⟨g10, 0, none⟩) [hJump 1, hHalt] := i10.keep KIns_pos (q11.step (fun _ _ h => h) (fun _ _ h => h.elim))
    have p0 : PIm w11 (hP [hHalt]) (hA (some ⟨g0, 0, none⟩) 1) := hPim (i0.ext KIns_pos x11) (by simp) (by simp)
    have p1 : PIm w11 (hP [hJump 0, hHalt]) (hA (some ⟨g8, 0, none⟩) 2) := hPim j1 (by simp) (by simp)
    have p2 : PIm w11 (hP [hJump 1, hHalt]) (hA (some ⟨g10, 0, none⟩) 2) := hPim j2 (by simp) (by simp)
    have e11 := e3.trans' x11
    have b11 := b1.ext x11
    clear x9 x11 q9 q11 f8 f10 i8 i9 i10 hw9 hw11 br9 bq9 j1 j2
    refine (ShowTwo_spec (hT.ext e11)).mono ?_
    rintro _ w12 ⟨rfl, k12⟩
    refine ⟨_, rfl, brS (fun _ => ?_) (fun h => absurd rfl h)⟩
    repeat (first | refine ⟨_, Blk.cell (b11.ext k12) (by rfl), ?_⟩ | refine ⟨_, _, _, Blk.cell (b11.ext k12) (by rfl), ?_⟩)
    refine (Check_spec (p0.ext k12) (hT.ext (e11.trans' k12))).mono ?_
    rintro _ w13 ⟨rfl, k13⟩
    rw [chk0]
    refine ⟨_, rfl, brd (fun _ => ?_) (fun h => absurd rfl h)⟩
    have k := k12.trans' k13
    repeat (first | refine ⟨_, Blk.cell (bq11.ext k) (by rfl), ?_⟩ | refine ⟨_, _, _, Blk.cell (bq11.ext k) (by rfl), ?_⟩)
    refine (Check_spec (p1.ext k) (hT.ext (e11.trans' k))).mono ?_
    rintro _ w14 ⟨rfl, k14⟩
    rw [chk1]
    refine ⟨_, rfl, brd (fun _ => ?_) (fun h => absurd rfl h)⟩
    have k' := k.trans' k14
    repeat (first | refine ⟨_, Blk.cell (br11.ext k') (by rfl), ?_⟩ | refine ⟨_, _, _, Blk.cell (br11.ext k') (by rfl), ?_⟩)
    refine (Check_spec (p2.ext k') (hT.ext (e11.trans' k'))).mono ?_
    rintro _ w15 ⟨rfl, k15⟩
    rw [chk2]
    exact ⟨_, rfl, rfl, e11.trans' (k'.trans' k15)⟩
end Go.Proofs.YtaifphjenebgoaaDoor
/- Layer 15: the writer. -/
set_option linter.unusedVariables false
set_option linter.unusedSimpArgs false
namespace Go.Proofs.YtaifphjenebgoaaDoor
open Go Go.Sx R1 K15
def KI : Kd Int := Kd.int .i64
theorem KI_pos : 0 < KI.size := by decide
theorem KBo_pos : 0 < Kd.bool.size := by decide
theorem ints_fresh {w w' : World} {g : Nat} {e : TypeId} {Ω : Nat → Prop} {ns : List Int} (f : Fresh w g w' (ns.map (Value.int .i64)) e) (hΩ : ¬ Ω g) (hl : ns.length ≤ 100) : Imm KI Ω w' (some ⟨g, 0, none⟩) ns :=
  f.imm hΩ KI_pos (by simp [KI, Kd.int]) (by simp only [maxLen]; omega) (fun i a h => by
    show ((ns.map (Value.int .i64)).drop (i * 1)).take 1 = [.int .i64 a]
    rw [Nat.mul_one]
    exact part1 (by rw [List.getElem?_map, h]; rfl))
theorem bools_fresh {w w' : World} {g : Nat} {e : TypeId} {Ω : Nat → Prop} {ns : List Bool} (f : Fresh w g w' (ns.map Value.bool) e) (hΩ : ¬ Ω g) (hl : ns.length ≤ 100) : Imm Kd.bool Ω w' (some ⟨g, 0, none⟩) ns :=
  f.imm hΩ KBo_pos (by simp [Kd.bool]) (by simp only [maxLen]; omega) (fun i a h => by
    show ((ns.map Value.bool).drop (i * 1)).take 1 = [.bool a]
    rw [Nat.mul_one]
    exact part1 (by rw [List.getElem?_map, h]; rfl))
/-- a writer: the variable g holds the slice of what is written, in memory of its own -/
structure Wr (w : World) (g : Nat) (A : Option Addr) (c : Nat) (l : List UInt8) : Prop where
  own : OwnB w A c l
  blk : Blk w g [.slice A l.length c]
  off : ¬ ownB A g
/-- what of the writer's memory is -/
abbrev WO (g : Nat) (A : Option Addr) : Nat → Prop := fun k => k = g ∨ ownB A k
/-- what a call of the writer does -/
structure WG (g : Nat) (A A' : Option Addr) (w w' : World) : Prop where
  fr : Fr (WO g A) w w'
  sub : ∀ k, ownB A' k → ownB A k ∨ w.heap.size ≤ k
theorem WG.trans {g : Nat} {A B C : Option Addr} {a b c : World} (h : WG g A B a b) (h' : WG g B C b c) : WG g A C a c :=
  ⟨h.fr.trans h'.fr (fun _ _ h => h) (fun k hk hb => hb.elim .inl (fun hB => (h.sub k hB).elim .inr (fun hge => absurd hk (Nat.not_lt.2 hge)))),
    fun k hk => (h'.sub k hk).elim (fun h1 => h.sub k h1) (fun h1 => .inr (Nat.le_trans h.fr.size h1))⟩
theorem WG.ofExt {g : Nat} {A : Option Addr} {w w' : World} (e : Ext w w') : WG g A A w w' := ⟨e.mono (fun _ _ h => h.elim), fun _ h => .inl h⟩
theorem WG.refl (g : Nat) (A : Option Addr) (w : World) : WG g A A w w := WG.ofExt (.refl _ _)
section
variable {w w' : World} {g : Nat} {A A' : Option Addr} {c c' : Nat} {l l' : List UInt8}
theorem Wr.ext (h : Wr w g A c l) (e : Ext w w') : Wr w' g A c l := ⟨h.own.keep e (fun _ _ h => h), h.blk.ext e, h.off⟩
theorem Wr.lt (h : Wr w g A c l) : ∀ k, WO g A k → k < w.heap.size := fun k hk => hk.elim (fun e => e ▸ h.blk.lt) (fun hA => Own.lt h.own k hA)
theorem Wr.push (h : Wr w g A c l) (ho : OwnB w' A' c' l') (hg : Grew A A' w w') :
    stOK ((⟨g, 0, none⟩ : Addr).add 0) 0 [.slice A' l'.length c'] w' ∧ ∀ u, u = setAll ((⟨g, 0, none⟩ : Addr).add 0) 0 [.slice A' l'.length c'] w' → Wr u g A' c' l' ∧ WG g A A' w u := by
  have b' := h.blk.keep hg.fr h.off
  have off' : ¬ ownB A' g := fun hk => (hg.sub g hk).elim h.off (fun hge => absurd h.blk.lt (Nat.not_lt.2 hge))
  refine ⟨cellOK b' (by simp), fun u hu => ?_⟩
  obtain ⟨b2, q⟩ := cellSet b' hu
  exact ⟨⟨ho.keep q (fun k hk e => off' (e ▸ hk)), b2, off'⟩, hg.fr.trans q (fun _ _ h => .inr h) (fun _ _ h => .inl h), hg.sub⟩
theorem WG.imm {α : Type} {K : Kd α} {B : Option Addr} {xs : List α} (hg : WG g A A' w w') (hz : 0 < K.size) (h : Imm K (WO g A) w B xs) : Imm K NoB w' B xs :=
  h.keep hz (hg.fr.step (fun _ _ h => h) (fun _ _ h => h.elim))
theorem wput_spec (h : Wr w g A c l) {B : Option Addr} {d : Nat} {ns : List Int} (hB : Imm KI (WO g A) w B ns) (hn : ∀ n ∈ ns, 0 ≤ n ∧ n < 9223372036854775808) (hl : l.length + 10 * ns.length + 10 ≤ 140737488355328) :
    CallsV Tryd.prog 28 #[.pointer (some ⟨g, 0, none⟩), .slice B ns.length d] w fun r w' => r = .tuple #[] ∧ ∃ A' c', Wr w' g A' c' (l ++ ns.flatMap K15.eI) ∧ WG g A A' w w' := by
  refine code_writer_put.calls okay ?_
  unfold code_writer_put.W
  refine ⟨fun x u => ∃ j : Nat, j ≤ ns.length ∧ x = (j : Int) ∧ ∃ A1 c1, Wr u g A1 c1 (l ++ (ns.take j).flatMap K15.eI) ∧ WG g A A1 w u, fun x _ => ((ns.length : Int) - x).toNat, ⟨0, by omega, rfl, A, c, by simpa using h, .refl _ _ _⟩, ?_⟩
  rintro _ u ⟨j, hj, rfl, A1, c1, h1, hg⟩
  refine brd (fun hlt => ?_) (fun hge => ?_)
  · have hjl : j < ns.length := by omega
    obtain ⟨ad, hA, cs, hrep, hc⟩ := (hg.imm KI_pos hB).get1 hjl
    have hcs : cs = [.int .i64 ns[j]] := hrep
    subst hcs
    have hnj := hn _ (List.getElem_mem hjl)
    have hlen := flatB (f := K15.eI) (M := 10) (ns.take j) (fun v hv => eI_len (hn v (List.mem_of_mem_take hv)))
    rw [List.length_take, Nat.min_eq_left hj] at hlen
    refine ⟨ad, hA, ⟨by omega, by omega⟩, _, hc 0 _ rfl, _, rfl, _, _, _, h1.blk.cell rfl, ?_⟩
    rw [wu _ (by omega) (by omega), show ns[j] = ((ns[j].toNat : Nat) : Int) by omega]
    refine (Uint_spec h1.own ns[j].toNat (by omega) (by rw [List.length_append]; omega)).mono ?_
    rintro _ u1 ⟨A2, c2, rfl, ho, hg2, _⟩
    obtain ⟨s1, s2⟩ := h1.push ho hg2
    refine ⟨_, _, _, rfl, _, rfl, s1, fun v hv => ?_⟩
    obtain ⟨q1, q2⟩ := s2 v hv
    rw [wi ((j : Int) + 1) (by omega) (by omega)]
    refine ⟨⟨j + 1, by omega, rfl, A2, c2, ?_, hg.trans q2⟩, by dsimp only; omega⟩
    rw [flatS hjl, ← List.append_assoc]
    exact q1
  · obtain rfl : j = ns.length := by omega
    rw [List.take_length] at h1
    exact ⟨rfl, A1, c1, h1, hg⟩
theorem wflag_spec (h : Wr w g A c l) {B : Option Addr} {d : Nat} {bs : List Bool} (hB : Imm Kd.bool (WO g A) w B bs) (hl : l.length + 10 * bs.length + 30 ≤ 140737488355328) :
    CallsV Tryd.prog 32 #[.pointer (some ⟨g, 0, none⟩), .slice B bs.length d] w fun r w' => r = .tuple #[] ∧ ∃ A' c', Wr w' g A' c' (l ++ bs.flatMap eF) ∧ WG g A A' w w' := by
  refine code_writer_flag.calls okay ?_
  unfold code_writer_flag.W
  refine ⟨fun x u => ∃ j : Nat, j ≤ bs.length ∧ x = (j : Int) ∧ ∃ A1 c1, Wr u g A1 c1 (l ++ (bs.take j).flatMap eF) ∧ WG g A A1 w u, fun x _ => ((bs.length : Int) - x).toNat, ⟨0, by omega, rfl, A, c, by simpa using h, .refl _ _ _⟩, ?_⟩
  rintro _ u ⟨j, hj, rfl, A1, c1, h1, hg⟩
  refine brd (fun hlt => ?_) (fun hge => ?_)
  · have hjl : j < bs.length := by omega
    obtain ⟨ad, hA, cs, hrep, hc⟩ := (hg.imm KBo_pos hB).get1 hjl
    have hcs : cs = [.bool bs[j]] := hrep
    subst hcs
    have hlen := flatB (f := eF) (M := 10) (bs.take j) (fun v hv => eF_len v)
    rw [List.length_take, Nat.min_eq_left hj] at hlen
    have step : ∀ (n : Int) (g3 : Nat) (u1 : World), (0 ≤ n ∧ n < 9223372036854775808) → eF bs[j] = K15.eI n → Fresh u g3 u1 ([n].map (Value.int .i64)) 3 →
        CallsV Tryd.prog 28 #[.pointer (some ⟨g, 0, none⟩), .slice (some ⟨g3, 0, none⟩) 1 1] u1 fun v v' => v = .tuple #[] ∧ (∃ j' : Nat, j' ≤ bs.length ∧ IntKind.i64.wrap ((j : Int) + 1) = (j' : Int) ∧ ∃ A1 c1, Wr v' g A1 c1 (l ++ (bs.take j').flatMap eF) ∧ WG g A A1 w v') ∧
          ((bs.length : Int) - IntKind.i64.wrap ((j : Int) + 1)).toNat < ((bs.length : Int) - (j : Int)).toNat := fun n g3 u1 hn he f3 => by
      have hge3 := f3.ge
      have hi : Imm KI (WO g A1) u1 (some ⟨g3, 0, none⟩) [n] := ints_fresh f3 (fun h => by have := h1.lt _ h; omega) (by simp)
      refine (wput_spec (h1.ext f3.ext) (ns := [n]) hi (fun m hm => by simp at hm; subst hm; exact hn) (by rw [List.length_append]; simp only [List.length_cons, List.length_nil]; omega)).mono ?_
      rintro _ v ⟨rfl, A2, c2, h2, hg2⟩
      rw [wi ((j : Int) + 1) (by omega) (by omega)]
      refine ⟨rfl, ⟨j + 1, by omega, rfl, A2, c2, ?_, hg.trans ((WG.ofExt f3.ext).trans hg2)⟩, by omega⟩
      rw [flatS hjl, ← List.append_assoc, he]
      simpa using h2
    refine ⟨ad, hA, ⟨by omega, by omega⟩, _, hc 0 _ rfl, br (fun hb => ?_) (fun hb => ?_)⟩
    · exact fun g3 u1 f3 => step 1 g3 u1 (by decide) (by rw [hb]; rfl) f3
    · exact fun g3 u1 f3 => step 0 g3 u1 (by decide) (by rw [hb]; rfl) f3
  · obtain rfl : j = bs.length := by omega
    rw [List.take_length] at h1
    exact ⟨rfl, A1, c1, h1, hg⟩
theorem wtext_spec (h : Wr w g A c l) (s : ByteArray) (hl : l.length + s.size + 10 ≤ 140737488355328) :
    CallsV Tryd.prog 29 #[.pointer (some ⟨g, 0, none⟩), .string s] w fun r w' => r = .tuple #[] ∧ ∃ A' c', Wr w' g A' c' (l ++ eS s) ∧ WG g A A' w w' := by
  refine code_writer_text.calls okay ?_
  unfold code_writer_text.W
  refine ⟨_, rfl, _, _, _, h.blk.cell rfl, ?_⟩
  obtain ⟨B, d, w1, hr, ho, e, hn, _⟩ := to_bytes bt w s (by simp only [maxLen]; omega)
  have h1 := h.ext e
  refine ⟨B, _, d, w1, hr, ?_⟩
  refine (Blob_spec h1.own (ho.imm (Ω := ownB A) (fun k hk hA => absurd (h.lt k (.inr hA)) (Nat.not_lt.2 (hn k hk)))) (by rw [sb_length]; omega)).mono ?_
  rintro _ w2 ⟨A', c', rfl, ho2, hg⟩
  obtain ⟨s1, s2⟩ := h1.push ho2 hg
  refine ⟨_, _, _, rfl, _, rfl, s1, fun u hu => ?_⟩
  obtain ⟨q1, q2⟩ := s2 u hu
  exact ⟨rfl, _, _, q1, (WG.ofExt e).trans q2⟩
end
end Go.Proofs.YtaifphjenebgoaaDoor
/- Layer 3: an argument of values. -/
set_option linter.unusedVariables false
namespace Go.Proofs.YtaifphjenebgoaaDoor
open Go Go.Sx R1
theorem opens_V : Opens Tryd.prog 51 KV good := by
  intro H enc w fuel cs x hx
  obtain ⟨hl, hf⟩ := opens_fields (by kernel_rfl) hx
  obtain ⟨k, hk, gk⟩ := hf 0 (ft := 49) (off := 0) (K := Kd.int .u8) (by kernel_rfl) (by kernel_rfl) (opens_int (by kernel_rfl))
  obtain ⟨n, hn, gn⟩ := hf 1 (ft := 2) (off := 1) (K := Kd.int .i64) (by kernel_rfl) (by kernel_rfl) (opens_int (by kernel_rfl))
  obtain ⟨s, hs, gs⟩ := hf 2 (ft := 9) (off := 2) (K := Kd.str) (by kernel_rfl) (by kernel_rfl) (opens_str (by kernel_rfl))
  have hl3 : cs.length = 3 := hl.trans (by kernel_rfl)
  match cs, hl3 with
  | [a, b, c], _ =>
    have hk : [a] = [.int .u8 k] := hk
    have hn : [b] = [.int .i64 n] := hn
    have hs : [c] = [.string s] := hs
    obtain ⟨m, rfl, hm⟩ := u8_nat gk
    exact ⟨⟨(m : Int), n, s⟩, by cases hk; cases hn; cases hs; rfl, ⟨by dsimp only; omega, by dsimp only; omega⟩, i64_range gn, gs⟩
theorem opens_flag : Opens Tryd.prog 4 Kd.bool (fun _ => True) := opens_bool (by kernel_rfl)
end Go.Proofs.YtaifphjenebgoaaDoor
/- Layer 15: an argument that is a program. -/
set_option linter.unusedVariables false
set_option linter.unusedSimpArgs false
namespace Go.Proofs.YtaifphjenebgoaaDoor
open Go Go.Sx R1 K15
def isI (x : Int) : Prop := -9223372036854775808 ≤ x ∧ x ≤ 9223372036854775807
def gCur (c : Cur) : Prop := c.name.size ≤ maxLen
def gSrt (s : Srt) : Prop := s.desc.length ≤ maxLen ∧ isI s.cols
def gTot (t : Tot) : Prop := t.fn.size ≤ maxLen
def gIns (i : Ins) : Prop := (0 ≤ i.op ∧ i.op < 256) ∧ isI i.a ∧ isI i.b ∧ isI i.c ∧ isI i.d
theorem opens_Cur : Opens Tryd.prog 53 KCur gCur := by
  intro H enc w fuel cs x hx
  obtain ⟨hl, hf⟩ := opens_fields (by kernel_rfl) hx
  obtain ⟨a, ha, g1⟩ := hf 0 (ft := 9) (off := 0) (K := Kd.str) (by kernel_rfl) (by kernel_rfl) (opens_str (by kernel_rfl))
  obtain ⟨b, hb, _⟩ := hf 1 (ft := 4) (off := 1) (K := Kd.bool) (by kernel_rfl) (by kernel_rfl) (opens_bool (by kernel_rfl))
  obtain ⟨c, hc, _⟩ := hf 2 (ft := 4) (off := 2) (K := Kd.bool) (by kernel_rfl) (by kernel_rfl) (opens_bool (by kernel_rfl))
  have hl3 : cs.length = 3 := hl.trans (by kernel_rfl)
  match cs, hl3 with
  | [x, y, z], _ =>
    have ha : [x] = [.string a] := ha
    have hb : [y] = [.bool b] := hb
    have hc : [z] = [.bool c] := hc
    exact ⟨⟨a, b, c⟩, by cases ha; cases hb; cases hc; rfl, g1⟩
theorem opens_Tot : Opens Tryd.prog 58 KTot gTot := by
  intro H enc w fuel cs x hx
  obtain ⟨hl, hf⟩ := opens_fields (by kernel_rfl) hx
  obtain ⟨a, ha, g1⟩ := hf 0 (ft := 9) (off := 0) (K := Kd.str) (by kernel_rfl) (by kernel_rfl) (opens_str (by kernel_rfl))
  obtain ⟨b, hb, _⟩ := hf 1 (ft := 4) (off := 1) (K := Kd.bool) (by kernel_rfl) (by kernel_rfl) (opens_bool (by kernel_rfl))
  have hl3 : cs.length = 2 := hl.trans (by kernel_rfl)
  match cs, hl3 with
  | [x, y], _ =>
    have ha : [x] = [.string a] := ha
    have hb : [y] = [.bool b] := hb
    exact ⟨⟨a, b⟩, by cases ha; cases hb; rfl, g1⟩
theorem opens_Srt : Opens Tryd.prog 56 KSrt gSrt := by
  intro H enc w fuel cs x hx
  obtain ⟨hl, hf⟩ := opens_fields (by kernel_rfl) hx
  obtain ⟨a, ha, g1, _⟩ := hf 0 (ft := 54) (off := 0) (K := Kd.slice Kd.bool (by decide)) (by kernel_rfl) (by kernel_rfl) (opens_slice (by kernel_rfl) (by kernel_rfl) (by decide) (opens_bool (t := 4) (by kernel_rfl)))
  obtain ⟨b, hb, g2⟩ := hf 1 (ft := 3) (off := 1) (K := Kd.int .i64) (by kernel_rfl) (by kernel_rfl) (opens_int (by kernel_rfl))
  obtain ⟨c, hc, _⟩ := hf 2 (ft := 4) (off := 2) (K := Kd.bool) (by kernel_rfl) (by kernel_rfl) (opens_bool (by kernel_rfl))
  have hl3 : cs.length = 3 := hl.trans (by kernel_rfl)
  match cs, hl3 with
  | [x, y, z], _ =>
    obtain ⟨A, d, ha, hd, hi⟩ := ha
    have ha : [x] = [.slice A a.length d] := ha
    have hb : [y] = [.int .i64 b] := hb
    have hc : [z] = [.bool c] := hc
    exact ⟨⟨a, b, c⟩, ⟨A, d, by cases ha; cases hb; cases hc; rfl, hd, hi⟩, g1, i64_range g2⟩
theorem opens_Ins : Opens Tryd.prog 38 KIns gIns := by
  intro H enc w fuel cs x hx
  obtain ⟨hl, hf⟩ := opens_fields (by kernel_rfl) hx
  obtain ⟨a, ha, g1⟩ := hf 0 (ft := 36) (off := 0) (K := Kd.int .u8) (by kernel_rfl) (by kernel_rfl) (opens_int (by kernel_rfl))
  obtain ⟨b, hb, g2⟩ := hf 1 (ft := 3) (off := 1) (K := Kd.int .i64) (by kernel_rfl) (by kernel_rfl) (opens_int (by kernel_rfl))
  obtain ⟨c, hc, g3⟩ := hf 2 (ft := 3) (off := 2) (K := Kd.int .i64) (by kernel_rfl) (by kernel_rfl) (opens_int (by kernel_rfl))
  obtain ⟨d, hd, g4⟩ := hf 3 (ft := 3) (off := 3) (K := Kd.int .i64) (by kernel_rfl) (by kernel_rfl) (opens_int (by kernel_rfl))
  obtain ⟨e, he, g5⟩ := hf 4 (ft := 3) (off := 4) (K := Kd.int .i64) (by kernel_rfl) (by kernel_rfl) (opens_int (by kernel_rfl))
  have hl3 : cs.length = 5 := hl.trans (by kernel_rfl)
  match cs, hl3 with
  | [x, y, z, u, v], _ =>
    have ha : [x] = [.int .u8 a] := ha
    have hb : [y] = [.int .i64 b] := hb
    have hc : [z] = [.int .i64 c] := hc
    have hd : [u] = [.int .i64 d] := hd
    have he : [v] = [.int .i64 e] := he
    obtain ⟨m, rfl, hm⟩ := u8_nat g1
    exact ⟨⟨(m : Int), b, c, d, e⟩, by cases ha; cases hb; cases hc; cases hd; cases he; rfl, ⟨by dsimp only; omega, by dsimp only; omega⟩, i64_range g2, i64_range g3, i64_range g4, i64_range g5⟩
/-- what an argument is, by its type alone -/
structure gProg (p : Prog) : Prop where
  ver : isI p.ver
  regs : isI p.regs
  binds : isI p.binds
  names : ∀ s ∈ p.names, s.size ≤ maxLen
  consts : ∀ v ∈ p.consts, good v
  curs : ∀ c ∈ p.curs, gCur c
  sorts : ∀ s ∈ p.sorts, gSrt s
  tots : ∀ t ∈ p.tots, gTot t
  code : ∀ i ∈ p.code, gIns i
theorem okWide_struct {P : Program} {w : World} {r : Reach} {base : Nat} {t : TypeId} {fs : Array Field} {v : Value} (ht : P.underlying t = some (.struct fs)) (h : Value.okWide P w r base t v) : ∃ cs, v = .agg cs ∧ cs.size = P.cellsOf t := by
  unfold Value.okWide at h
  rw [ht] at h
  cases v <;> simp at h
  exact ⟨_, rfl, h.1⟩
set_option maxRecDepth 10000 in
theorem arg_prog {H : Type} {enc : TypeId × Value → H} {W : World} {r : Reach} {base : Nat} {v : Value} {d : DataW H} {ps : List MemPlace}
    (hval : Value.okWide Tryd.prog W r base 29 v) (h : DataW.Trod enc Tryd.prog W 0 (fun _ => true) true 29 v d ps) : ∃ p a, v = pagg p a ∧ PIm W p a ∧ gProg p := by
  obtain ⟨arr, rfl, hs⟩ := okWide_struct (fs := sfs Tryd.prog 29) (by kernel_rfl) hval
  obtain ⟨fuel, hf⟩ := h
  obtain ⟨hl, hf⟩ := opens_fields (by kernel_rfl) hf
  obtain ⟨ver, h0, g0⟩ := hf 0 (ft := 3) (off := 0) (K := Kd.int .i64) (by kernel_rfl) (by kernel_rfl) (opens_int (by kernel_rfl))
  obtain ⟨regs, h1, g1⟩ := hf 1 (ft := 3) (off := 1) (K := Kd.int .i64) (by kernel_rfl) (by kernel_rfl) (opens_int (by kernel_rfl))
  obtain ⟨binds, h2, g2⟩ := hf 2 (ft := 3) (off := 2) (K := Kd.int .i64) (by kernel_rfl) (by kernel_rfl) (opens_int (by kernel_rfl))
  obtain ⟨names, ⟨A3, c3, h3, k3, i3⟩, m3, g3⟩ := hf 3 (ft := 22) (off := 3) (K := Kd.slice Kd.str KStr_pos) (by kernel_rfl) (by kernel_rfl) (opens_slice (by kernel_rfl) (by kernel_rfl) KStr_pos (opens_str (t := 9) (by kernel_rfl)))
  obtain ⟨consts, ⟨A4, c4, h4, k4, i4⟩, m4, g4⟩ := hf 4 (ft := 23) (off := 4) (K := Kd.slice KV KV_pos) (by kernel_rfl) (by kernel_rfl) (opens_slice (by kernel_rfl) (by kernel_rfl) KV_pos opens_V)
  obtain ⟨curs, ⟨A5, c5, h5, k5, i5⟩, m5, g5⟩ := hf 5 (ft := 24) (off := 5) (K := Kd.slice KCur KCur_pos) (by kernel_rfl) (by kernel_rfl) (opens_slice (by kernel_rfl) (by kernel_rfl) KCur_pos opens_Cur)
  obtain ⟨sorts, ⟨A6, c6, h6, k6, i6⟩, m6, g6⟩ := hf 6 (ft := 25) (off := 6) (K := Kd.slice KSrt KSrt_pos) (by kernel_rfl) (by kernel_rfl) (opens_slice (by kernel_rfl) (by kernel_rfl) KSrt_pos opens_Srt)
  obtain ⟨tots, ⟨A7, c7, h7, k7, i7⟩, m7, g7⟩ := hf 7 (ft := 26) (off := 7) (K := Kd.slice KTot KTot_pos) (by kernel_rfl) (by kernel_rfl) (opens_slice (by kernel_rfl) (by kernel_rfl) KTot_pos opens_Tot)
  obtain ⟨code, ⟨A8, c8, h8, k8, i8⟩, m8, g8⟩ := hf 8 (ft := 27) (off := 8) (K := Kd.slice KIns KIns_pos) (by kernel_rfl) (by kernel_rfl) (opens_slice (by kernel_rfl) (by kernel_rfl) KIns_pos opens_Ins)
  have hl9 : arr.size = 9 := hs.trans (by kernel_rfl)
  obtain ⟨cs⟩ := arr
  have hl9 : cs.length = 9 := hl9
  match cs, hl9 with
  | [x0, x1, x2, x3, x4, x5, x6, x7, x8], _ =>
    have h0 : [x0] = [.int .i64 ver] := h0
    have h1 : [x1] = [.int .i64 regs] := h1
    have h2 : [x2] = [.int .i64 binds] := h2
    have h3 : [x3] = [.slice A3 names.length c3] := h3
    have h4 : [x4] = [.slice A4 consts.length c4] := h4
    have h5 : [x5] = [.slice A5 curs.length c5] := h5
    have h6 : [x6] = [.slice A6 sorts.length c6] := h6
    have h7 : [x7] = [.slice A7 tots.length c7] := h7
    have h8 : [x8] = [.slice A8 code.length c8] := h8
    exact ⟨⟨ver, regs, binds, names, consts, curs, sorts, tots, code⟩, ⟨A3, c3, A4, c4, A5, c5, A6, c6, A7, c7, A8, c8⟩, by cases h0; cases h1; cases h2; cases h3; cases h4; cases h5; cases h6; cases h7; cases h8; rfl,
      ⟨i3, i4, i5, i6, i7, i8, m3, m4, m5, m6, m7, m8, k8⟩, ⟨i64_range g0, i64_range g1, i64_range g2, g3, g4, g5, g6, g7, g8⟩⟩
end Go.Proofs.YtaifphjenebgoaaDoor
/- Layer 15: a program as bytes. -/
set_option linter.unusedVariables false
set_option linter.unusedSimpArgs false
namespace Go.Proofs.YtaifphjenebgoaaDoor
open Go Go.Sx R1 K15
/-- a constant as bytes -/
def constE (v : V) : List UInt8 := (putR [v]).1
theorem constE_len (v : V) : (constE v).length ≤ 1048576 := by
  unfold constE putR
  split
  · simp
  · split
    · simp
    · dsimp only; omega
/-- a writer, its memory newer than a world -/
structure WS (wb u : World) (g : Nat) (A : Option Addr) (c : Nat) (l : List UInt8) : Prop where
  wr : Wr u g A c l
  ext : Ext wb u
  new : New wb A
  ge : wb.heap.size ≤ g
section
variable {wb u v : World} {g : Nat} {A A' : Option Addr} {c c' : Nat} {l l' : List UInt8}
theorem WS.step (h : WS wb u g A c l) (h' : Wr v g A' c' l') (q : WG g A A' u v) : WS wb v g A' c' l' :=
  ⟨h', h.ext.trans q.fr (fun _ _ h => h) (fun k hk hb => hb.elim (fun e => by have := h.ge; omega) (fun hA => absurd hk (Nat.not_lt.2 (h.new k hA)))), fun k hk => (q.sub k hk).elim (h.new k) (fun hge => Nat.le_trans h.ext.size hge), h.ge⟩
theorem WS.up (h : WS wb u g A c l) (e : Ext u v) : WS wb v g A c l := ⟨h.wr.ext e, h.ext.trans' e, h.new, h.ge⟩
theorem WG.off (q : WG g A A' u v) {k : Nat} (hn : ¬ WO g A k) (hlt : k < u.heap.size) : ¬ WO g A' k := fun h => h.elim (fun e => hn (.inl e)) (fun hA => (q.sub k hA).elim (fun h => hn (.inr h)) (fun hge => absurd hlt (Nat.not_lt.2 hge)))
theorem WS.puts (h : WS wb u g A c l) {ns : List Int} {e g2 : Nat} {u2 : World} (f : Fresh u g2 u2 (ns.map (Value.int .i64)) e) (hn : ∀ n ∈ ns, okN n) (h100 : ns.length ≤ 100) (hl : l.length ≤ 100000000000000) {d : Nat} :
    CallsV Tryd.prog 28 #[.pointer (some ⟨g, 0, none⟩), .slice (some ⟨g2, 0, none⟩) ns.length d] u2 fun r w' => r = .tuple #[] ∧ ∃ A' c', WS wb w' g A' c' (l ++ ns.flatMap K15.eI) ∧ WG g A A' u w' := by
  have hge := f.ge
  refine (wput_spec (h.wr.ext f.ext) (ints_fresh f (fun hk => by have := h.wr.lt _ hk; omega) h100) hn (by omega)).mono ?_
  rintro _ w' ⟨rfl, A', c', h', q⟩
  exact ⟨rfl, A', c', (h.up f.ext).step h' q, (WG.ofExt f.ext).trans q⟩
theorem WS.flags (h : WS wb u g A c l) {bs : List Bool} {e g2 : Nat} {u2 : World} (f : Fresh u g2 u2 (bs.map Value.bool) e) (h100 : bs.length ≤ 100) (hl : l.length ≤ 100000000000000) {d : Nat} :
    CallsV Tryd.prog 32 #[.pointer (some ⟨g, 0, none⟩), .slice (some ⟨g2, 0, none⟩) bs.length d] u2 fun r w' => r = .tuple #[] ∧ ∃ A' c', WS wb w' g A' c' (l ++ bs.flatMap eF) ∧ WG g A A' u w' := by
  have hge := f.ge
  refine (wflag_spec (h.wr.ext f.ext) (bools_fresh f (fun hk => by have := h.wr.lt _ hk; omega) h100) (by omega)).mono ?_
  rintro _ w' ⟨rfl, A', c', h', q⟩
  exact ⟨rfl, A', c', (h.up f.ext).step h' q, (WG.ofExt f.ext).trans q⟩
theorem WS.text (h : WS wb u g A c l) (s : ByteArray) (hs : s.size ≤ 1000) (hl : l.length ≤ 100000000000000) :
    CallsV Tryd.prog 29 #[.pointer (some ⟨g, 0, none⟩), .string s] u fun r w' => r = .tuple #[] ∧ ∃ A' c', WS wb w' g A' c' (l ++ eS s) ∧ WG g A A' u w' := by
  refine (wtext_spec h.wr s (by omega)).mono ?_
  rintro _ w' ⟨rfl, A', c', h', q⟩
  exact ⟨rfl, A', c', h.step h' q, q⟩
end
end Go.Proofs.YtaifphjenebgoaaDoor
