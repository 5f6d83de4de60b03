/- Part 3 of the texts of this claim: the engine, contracts, plain laws. -/
import Derived.Test.YtaifphjenebgoaaGreatDoorProg
import Derived.Test.YtaifphjenebgoaaGreatDoorZCBack15P2
import Derived.Shelf.Strconv.Itoa0
import Derived.Shelf.Strconv.Itoa1
import Derived.Shelf.LaysM
import Derived.Shelf.Strconv.Itoa2
import Derived.Shelf.Strconv.Itoa3
import Derived.Shelf.Strings.Fields
import Derived.Shelf.Strings.SplitShaped
import Derived.Shelf.Unicode.Latin
import Derived.Shelf.Unicode.Is16White
import Derived.Shelf.Unicode.IsSpaceAny
import Derived.Shelf.Unicode.Is16Any
import Derived.Shelf.Unicode.Is32Any
import Derived.Shelf.Unicode.ExclAny
set_option linter.unusedVariables false
set_option maxRecDepth 100000
namespace Go.Proofs.YtaifphjenebgoaaGreatDoor
open Go Go.Sx
noncomputable def bytes_Equal.W : Option Addr → Nat → Nat → Option Addr → Nat → Nat → World → (Value → World → Prop) → Prop := fun (a_A : Option Addr) (a_n a_c : Nat) (b_A : Option Addr) (b_n b_c :
 Nat) (w : World) (K : Value → World → Prop) => ∃ (x : ByteArray) (w' : World), RunsTo Tryz.prog (convert 32 9 (Value.slice a_A a_n a_c)) w (Value.string x) w' ∧ ∃ (x_1 : ByteArray) (w'_1 : World),
 RunsTo Tryz.prog (convert 32 9 (Value.slice b_A b_n b_c)) w' (Value.string x_1) w'_1 ∧ K (Value.bool (ByteArray.toList x == ByteArray.toList x_1)) w'_1
theorem bytes_Equal.calls (ok : Okay Tryz.prog) {a_A : Option Addr} {a_n : Nat} {a_c : Nat} {b_A : Option Addr} {b_n : Nat} {b_c : Nat} {w : World} {K : Value → World → Prop} (h : bytes_Equal.W a_A a_n a_c b_A b_n b_c w K) : CallsV Tryz.prog 13 #[.slice a_A a_n a_c, .slice b_A b_n b_c] w K :=
  fnW_calls ok Tryz.func13 (an := (.named .auto)) (args := [.slice a_A a_n a_c, .slice b_A b_n b_c]) (Eq.mp (by kernel_rfl) h)
end Go.Proofs.YtaifphjenebgoaaGreatDoor
set_option linter.unusedVariables false
set_option maxRecDepth 100000
namespace Go.Proofs.YtaifphjenebgoaaGreatDoor
open Go Go.Sx
noncomputable def cardindexlaw15_CodeCuts.W : Int → Int → Int → Option Addr → Nat → Nat → Option Addr → Nat → Nat → Option Addr → Nat → Nat → Option Addr → Nat → Nat → Option Addr → Nat → Nat → Option
 Addr → Nat → Nat → Int → Int → World → (Value → World → Prop) → Prop := fun (p0 p1 p2 : Int) (p3_A : Option Addr) (p3_n p3_c : Nat) (p4_A : Option Addr) (p4_n p4_c : Nat) (p5_A : Option Addr) (p5_n
 p5_c : Nat) (p6_A : Option Addr) (p6_n p6_c : Nat) (p7_A : Option Addr) (p7_n p7_c : Nat) (p8_A : Option Addr) (p8_n p8_c : Nat) (cut more : Int) (w : World) (K : Value → World → Prop) => ∀ (g : Nat)
 (w' : World), Fresh w g w' [Value.int IntKind.i64 p0, Value.int IntKind.i64 p1, Value.int IntKind.i64 p2, Value.slice p3_A p3_n p3_c, Value.slice p4_A p4_n p4_c, Value.slice p5_A p5_n p5_c, Value.slice
 p6_A p6_n p6_c, Value.slice p7_A p7_n p7_c, Value.slice p8_A p8_n p8_c] 29 → ∃ (x : Int), World.cell? w' (Addr.add (Addr.mk g 0 none) 0) = some (Value.int IntKind.i64 x) ∧ ∃ (x_1 : Int),
 World.cell? w' (Addr.add (Addr.mk g 0 none) 1) = some (Value.int IntKind.i64 x_1) ∧ ∃ (x_2 : Int), World.cell? w' (Addr.add (Addr.mk g 0 none) 2) = some (Value.int
 IntKind.i64 x_2) ∧ ∃ (x_3 : Option Addr) (x_4 x_5 : Nat), World.cell? w' (Addr.add (Addr.mk g 0 none) 3) = some (Value.slice x_3 x_4 x_5) ∧ ∃ (x_6 : Option Addr) (x_7 x_8 : Nat),
 World.cell? w' (Addr.add (Addr.mk g 0 none) 4) = some (Value.slice x_6 x_7 x_8) ∧ ∃ (x_9 : Option Addr) (x_10 x_11 : Nat), World.cell? w' (Addr.add (Addr.mk g 0 none) 5) =
 some (Value.slice x_9 x_10 x_11) ∧ ∃ (x_12 : Option Addr) (x_13 x_14 : Nat), World.cell? w' (Addr.add (Addr.mk g 0 none) 6) = some (Value.slice x_12 x_13 x_14) ∧ ∃ (x_15 : Option
 Addr) (x_16 x_17 : Nat), World.cell? w' (Addr.add (Addr.mk g 0 none) 7) = some (Value.slice x_15 x_16 x_17) ∧ ∃ (x_18 : Option Addr) (x_19 x_20 : Nat), World.cell? w' (Addr.add (Addr.mk g
 0 none) 8) = some (Value.slice x_18 x_19 x_20) ∧ CallsV Tryz.prog 6 #[Value.agg #[Value.int IntKind.i64 x, Value.int IntKind.i64 x_1, Value.int IntKind.i64 x_2, Value.slice x_3 x_4 x_5,
 Value.slice x_6 x_7 x_8, Value.slice x_9 x_10 x_11, Value.slice x_12 x_13 x_14, Value.slice x_15 x_16 x_17, Value.slice x_18 x_19 x_20]] w' fun (v : Value) (w' : World) => ∃ (x : Bool), v = Value.bool
 x ∧ bif x then CallsV Tryz.prog 7 #[] w' fun (v : Value) (w' : World) => ∃ (x : Bool), v = Value.bool x ∧ K (Value.bool x) w' else ∃ (x : Int), World.cell? w' (Addr.add (Addr.mk g 0 none) 0) =
 some (Value.int IntKind.i64 x) ∧ ∃ (x_21 : Int), World.cell? w' (Addr.add (Addr.mk g 0 none) 1) = some (Value.int IntKind.i64 x_21) ∧ ∃ (x_22 : Int), World.cell? w' (Addr.add
 (Addr.mk g 0 none) 2) = some (Value.int IntKind.i64 x_22) ∧ ∃ (x_23 : Option Addr) (x_24 x_25 : Nat), World.cell? w' (Addr.add (Addr.mk g 0 none) 3) = some (Value.slice x_23
 x_24 x_25) ∧ ∃ (x_26 : Option Addr) (x_27 x_28 : Nat), World.cell? w' (Addr.add (Addr.mk g 0 none) 4) = some (Value.slice x_26 x_27 x_28) ∧ ∃ (x_29 : Option Addr) (x_30 x_31 : Nat),
 World.cell? w' (Addr.add (Addr.mk g 0 none) 5) = some (Value.slice x_29 x_30 x_31) ∧ ∃ (x_32 : Option Addr) (x_33 x_34 : Nat), World.cell? w' (Addr.add (Addr.mk g 0 none) 6) =
 some (Value.slice x_32 x_33 x_34) ∧ ∃ (x_35 : Option Addr) (x_36 x_37 : Nat), World.cell? w' (Addr.add (Addr.mk g 0 none) 7) = some (Value.slice x_35 x_36 x_37) ∧ ∃ (x_38 : Option
 Addr) (x_39 x_40 : Nat), World.cell? w' (Addr.add (Addr.mk g 0 none) 8) = some (Value.slice x_38 x_39 x_40) ∧ CallsV Tryz.prog 8 #[Value.agg #[Value.int IntKind.i64 x, Value.int
 IntKind.i64 x_21, Value.int IntKind.i64 x_22, Value.slice x_23 x_24 x_25, Value.slice x_26 x_27 x_28, Value.slice x_29 x_30 x_31, Value.slice x_32 x_33 x_34, Value.slice x_35 x_36 x_37, Value.slice
 x_38 x_39 x_40]] w' fun (v : Value) (w' : World) => ∃ (x : Option Addr) (x_41 x_42 : Nat) (x_43 : Int), v = Value.tuple #[Value.slice x x_41 x_42, Value.int IntKind.i64 x_43] ∧ bif !decide
 (x_43 = (0 : Int)) then bif decide ((↑x_41 : Int) = (0 : Int)) then CallsV Tryz.prog 7 #[] w' fun (v : Value) (w' : World) => ∃ (x : Bool), v = Value.bool x ∧ K (Value.bool x) w' else K
 (Value.bool false) w' else CallsV Tryz.prog 10 #[Value.int IntKind.i64 cut, Value.int IntKind.i64 (↑x_41 : Int)] w' fun (v : Value) (w' : World) => ∃ (x_44 : Int), v = Value.int IntKind.i64 x_44 ∧
 ((0 : Int) ≤ x_44 ∧ x_44 ≤ (↑x_42 : Int)) ∧ CallsV Tryz.prog 9 #[Value.slice (cutAt x x_42 0 1) (Int.toNat x_44 - 0) (x_42 - 0)] w' fun (v : Value) (w' : World) => ∃ (x_45 x_46 x_47 : Int) (x_48 :
 Option Addr) (x_49 x_50 : Nat) (x_51 : Option Addr) (x_52 x_53 : Nat) (x_54 : Option Addr) (x_55 x_56 : Nat) (x_57 : Option Addr) (x_58 x_59 : Nat) (x_60 : Option Addr) (x_61 x_62 : Nat) (x_63 : Option
 Addr) (x_64 x_65 : Nat) (x_66 : Int), v = Value.tuple #[Value.agg #[Value.int IntKind.i64 x_45, Value.int IntKind.i64 x_46, Value.int IntKind.i64 x_47, Value.slice x_48 x_49 x_50, Value.slice x_51 x_52
 x_53, Value.slice x_54 x_55 x_56, Value.slice x_57 x_58 x_59, Value.slice x_60 x_61 x_62, Value.slice x_63 x_64 x_65], Value.int IntKind.i64 x_66] ∧ ∀ (g : Nat) (w'_1 : World), Fresh w' g w'_1
 [Value.int IntKind.i64 (0 : Int), Value.int IntKind.i64 (0 : Int), Value.int IntKind.i64 (0 : Int), Value.slice none 0 0, Value.slice none 0 0, Value.slice none 0 0, Value.slice
 none 0 0, Value.slice none 0 0, Value.slice none 0 0] 29 → stOK (Addr.mk g 0 none) 0 [Value.int IntKind.i64 x_45, Value.int IntKind.i64 x_46, Value.int IntKind.i64 x_47,
 Value.slice x_48 x_49 x_50, Value.slice x_51 x_52 x_53, Value.slice x_54 x_55 x_56, Value.slice x_57 x_58 x_59, Value.slice x_60 x_61 x_62, Value.slice x_63 x_64 x_65] w'_1 ∧ ∀ (w' : World), w' =
 setAll (Addr.mk g 0 none) 0 [Value.int IntKind.i64 x_45, Value.int IntKind.i64 x_46, Value.int IntKind.i64 x_47, Value.slice x_48 x_49 x_50, Value.slice x_51 x_52 x_53, Value.slice x_54 x_55
 x_56, Value.slice x_57 x_58 x_59, Value.slice x_60 x_61 x_62, Value.slice x_63 x_64 x_65] w'_1 → ∀ (g : Nat) (w'_2 : World), Fresh w' g w'_2 [] 5 → ∃ (x_67 : Option Addr) (x_68 x_69 : Nat) (w' :
 World), RunsTo Tryz.prog (Builtin.append_ (Array.mk [32, 32]) 32 #[Value.slice (some (Addr.mk g 0 none)) 0 0, Value.slice x x_41 x_42]) w'_2 (Value.slice x_67 x_68 x_69) w' ∧ ∀ (g : Nat)
 (w'_3 : World), Fresh w' g w'_3 [Value.int IntKind.u8 more] 5 → ∃ (x : Option Addr) (x_70 x_71 : Nat) (w' : World), RunsTo Tryz.prog (Builtin.append_ (Array.mk [32, 32]) 32 #[Value.slice x_67 x_68
 x_69, Value.slice (some (Addr.mk g 0 none)) 1 1]) w'_3 (Value.slice x x_70 x_71) w' ∧ CallsV Tryz.prog 9 #[Value.slice x x_70 x_71] w' fun (v : Value) (w' : World) => ∃ (x x_72 x_73 :
 Int) (x_74 : Option Addr) (x_75 x_76 : Nat) (x_77 : Option Addr) (x_78 x_79 : Nat) (x_80 : Option Addr) (x_81 x_82 : Nat) (x_83 : Option Addr) (x_84 x_85 : Nat) (x_86 : Option Addr) (x_87 x_88 : Nat)
 (x_89 : Option Addr) (x_90 x_91 : Nat) (x_92 : Int), v = Value.tuple #[Value.agg #[Value.int IntKind.i64 x, Value.int IntKind.i64 x_72, Value.int IntKind.i64 x_73, Value.slice x_74 x_75 x_76,
 Value.slice x_77 x_78 x_79, Value.slice x_80 x_81 x_82, Value.slice x_83 x_84 x_85, Value.slice x_86 x_87 x_88, Value.slice x_89 x_90 x_91], Value.int IntKind.i64 x_92] ∧ ∀ (g : Nat) (w'_4 : World),
 Fresh w' g w'_4 [Value.int IntKind.i64 (0 : Int), Value.int IntKind.i64 (0 : Int), Value.int IntKind.i64 (0 : Int), Value.slice none 0 0, Value.slice none 0 0, Value.slice none 0
 0, Value.slice none 0 0, Value.slice none 0 0, Value.slice none 0 0] 29 → stOK (Addr.mk g 0 none) 0 [Value.int IntKind.i64 x, Value.int IntKind.i64 x_72, Value.int
 IntKind.i64 x_73, Value.slice x_74 x_75 x_76, Value.slice x_77 x_78 x_79, Value.slice x_80 x_81 x_82, Value.slice x_83 x_84 x_85, Value.slice x_86 x_87 x_88, Value.slice x_89 x_90 x_91] w'_4 ∧ ∀ (w' :
 World), w' = setAll (Addr.mk g 0 none) 0 [Value.int IntKind.i64 x, Value.int IntKind.i64 x_72, Value.int IntKind.i64 x_73, Value.slice x_74 x_75 x_76, Value.slice x_77 x_78 x_79, Value.slice
 x_80 x_81 x_82, Value.slice x_83 x_84 x_85, Value.slice x_86 x_87 x_88, Value.slice x_89 x_90 x_91] w'_4 → bif decide (x_66 = (140 : Int)) then bif decide (x_92 = (140 : Int)) then
 CallsV Tryz.prog 7 #[] w' fun (v : Value) (w' : World) => ∃ (x : Bool), v = Value.bool x ∧ K (Value.bool x) w' else K (Value.bool false) w' else K (Value.bool false) w'
theorem cardindexlaw15_CodeCuts.calls (ok : Okay Tryz.prog) {p0 : Int} {p1 : Int} {p2 : Int} {p3_A : Option Addr} {p3_n : Nat} {p3_c : Nat} {p4_A : Option Addr} {p4_n : Nat} {p4_c : Nat} {p5_A : Option Addr} {p5_n : Nat} {p5_c : Nat} {p6_A : Option Addr} {p6_n : Nat} {p6_c : Nat} {p7_A : Option Addr} {p7_n : Nat} {p7_c : Nat} {p8_A : Option Addr} {p8_n : Nat} {p8_c : Nat} {cut : Int} {more : Int} {w : World} {K : Value → World → Prop} (h : cardindexlaw15_CodeCuts.W p0 p1 p2 p3_A p3_n p3_c p4_A p4_n p4_c p5_A p5_n p5_c p6_A p6_n p6_c p7_A p7_n p7_c p8_A p8_n p8_c cut more w K) : CallsV Tryz.prog 3 #[.agg #[.int .i64 p0, .int .i64 p1, .int .i64 p2, .slice p3_A p3_n p3_c, .slice p4_A p4_n p4_c, .slice p5_A p5_n p5_c, .slice p6_A p6_n p6_c, .slice p7_A p7_n p7_c, .slice p8_A p8_n p8_c], .int .i64 cut, .int .u8 more] w K :=
  fnW_calls ok Tryz.func3 (an := (.named .auto)) (args := [.agg #[.int .i64 p0, .int .i64 p1, .int .i64 p2, .slice p3_A p3_n p3_c, .slice p4_A p4_n p4_c, .slice p5_A p5_n p5_c, .slice p6_A p6_n p6_c, .slice p7_A p7_n p7_c, .slice p8_A p8_n p8_c], .int .i64 cut, .int .u8 more]) (Eq.mp (by kernel_rfl) h)
noncomputable def cardindexlaw15_CodeBack.W : Int → Int → Int → Option Addr → Nat → Nat → Option Addr → Nat → Nat → Option Addr → Nat → Nat → Option Addr → Nat → Nat → Option Addr → Nat → Nat → Option
 Addr → Nat → Nat → Option Addr → Nat → Nat → World → (Value → World → Prop) → Prop := fun (p0 p1 p2 : Int) (p3_A : Option Addr) (p3_n p3_c : Nat) (p4_A : Option Addr) (p4_n p4_c : Nat) (p5_A : Option
 Addr) (p5_n p5_c : Nat) (p6_A : Option Addr) (p6_n p6_c : Nat) (p7_A : Option Addr) (p7_n p7_c : Nat) (p8_A : Option Addr) (p8_n p8_c : Nat) (b_A : Option Addr) (b_n b_c : Nat) (w : World) (K : Value →
 World → Prop) => ∀ (g : Nat) (w' : World), Fresh w g w' [Value.int IntKind.i64 p0, Value.int IntKind.i64 p1, Value.int IntKind.i64 p2, Value.slice p3_A p3_n p3_c, Value.slice p4_A p4_n p4_c,
 Value.slice p5_A p5_n p5_c, Value.slice p6_A p6_n p6_c, Value.slice p7_A p7_n p7_c, Value.slice p8_A p8_n p8_c] 29 → ∃ (x : Int), World.cell? w' (Addr.add (Addr.mk g 0 none) 0) = some
 (Value.int IntKind.i64 x) ∧ ∃ (x_1 : Int), World.cell? w' (Addr.add (Addr.mk g 0 none) 1) = some (Value.int IntKind.i64 x_1) ∧ ∃ (x_2 : Int), World.cell? w' (Addr.add (Addr.mk g 0
 none) 2) = some (Value.int IntKind.i64 x_2) ∧ ∃ (x_3 : Option Addr) (x_4 x_5 : Nat), World.cell? w' (Addr.add (Addr.mk g 0 none) 3) = some (Value.slice x_3 x_4 x_5) ∧ ∃ (x_6
 : Option Addr) (x_7 x_8 : Nat), World.cell? w' (Addr.add (Addr.mk g 0 none) 4) = some (Value.slice x_6 x_7 x_8) ∧ ∃ (x_9 : Option Addr) (x_10 x_11 : Nat), World.cell? w' (Addr.add
 (Addr.mk g 0 none) 5) = some (Value.slice x_9 x_10 x_11) ∧ ∃ (x_12 : Option Addr) (x_13 x_14 : Nat), World.cell? w' (Addr.add (Addr.mk g 0 none) 6) = some (Value.slice x_12
 x_13 x_14) ∧ ∃ (x_15 : Option Addr) (x_16 x_17 : Nat), World.cell? w' (Addr.add (Addr.mk g 0 none) 7) = some (Value.slice x_15 x_16 x_17) ∧ ∃ (x_18 : Option Addr) (x_19 x_20 : Nat),
 World.cell? w' (Addr.add (Addr.mk g 0 none) 8) = some (Value.slice x_18 x_19 x_20) ∧ CallsV Tryz.prog 6 #[Value.agg #[Value.int IntKind.i64 x, Value.int IntKind.i64 x_1, Value.int
 IntKind.i64 x_2, Value.slice x_3 x_4 x_5, Value.slice x_6 x_7 x_8, Value.slice x_9 x_10 x_11, Value.slice x_12 x_13 x_14, Value.slice x_15 x_16 x_17, Value.slice x_18 x_19 x_20]] w' fun (v : Value) (w'
 : World) => ∃ (x : Bool), v = Value.bool x ∧ bif x then CallsV Tryz.prog 7 #[] w' fun (v : Value) (w' : World) => ∃ (x : Bool), v = Value.bool x ∧ K (Value.bool x) w' else bif decide ((20000
 : Int) < (↑b_n : Int)) then CallsV Tryz.prog 7 #[] w' fun (v : Value) (w' : World) => ∃ (x : Bool), v = Value.bool x ∧ K (Value.bool x) w' else ∃ (J : World → Prop), (∀ (w : World), J w → CallsV
 Tryz.prog 9 #[Value.slice b_A b_n b_c] w fun (v : Value) (w' : World) => ∃ (x x_21 x_22 : Int) (x_23 : Option Addr) (x_24 x_25 : Nat) (x_26 : Option Addr) (x_27 x_28 : Nat) (x_29 : Option Addr) (x_30
 x_31 : Nat) (x_32 : Option Addr) (x_33 x_34 : Nat) (x_35 : Option Addr) (x_36 x_37 : Nat) (x_38 : Option Addr) (x_39 x_40 : Nat) (x_41 : Int), v = Value.tuple #[Value.agg #[Value.int IntKind.i64 x,
 Value.int IntKind.i64 x_21, Value.int IntKind.i64 x_22, Value.slice x_23 x_24 x_25, Value.slice x_26 x_27 x_28, Value.slice x_29 x_30 x_31, Value.slice x_32 x_33 x_34, Value.slice x_35 x_36 x_37,
 Value.slice x_38 x_39 x_40], Value.int IntKind.i64 x_41] ∧ ∀ (g : Nat) (w'_1 : World), Fresh w' g w'_1 [Value.int IntKind.i64 (0 : Int), Value.int IntKind.i64 (0 : Int), Value.int IntKind.i64 (0 :
 Int), Value.slice none 0 0, Value.slice none 0 0, Value.slice none 0 0, Value.slice none 0 0, Value.slice none 0 0, Value.slice none 0 0] 29 → stOK (Addr.mk g
 0 none) 0 [Value.int IntKind.i64 x, Value.int IntKind.i64 x_21, Value.int IntKind.i64 x_22, Value.slice x_23 x_24 x_25, Value.slice x_26 x_27 x_28, Value.slice x_29 x_30 x_31, Value.slice x_32
 x_33 x_34, Value.slice x_35 x_36 x_37, Value.slice x_38 x_39 x_40] w'_1 ∧ ∀ (w' : World), w' = setAll (Addr.mk g 0 none) 0 [Value.int IntKind.i64 x, Value.int IntKind.i64 x_21, Value.int
 IntKind.i64 x_22, Value.slice x_23 x_24 x_25, Value.slice x_26 x_27 x_28, Value.slice x_29 x_30 x_31, Value.slice x_32 x_33 x_34, Value.slice x_35 x_36 x_37, Value.slice x_38 x_39 x_40] w'_1 → bif
 !decide (x_41 = (0 : Int)) then bif decide (x_41 = (140 : Int)) then ∃ (x : Int), World.cell? w' (Addr.add (Addr.mk g 0 none) 0) = some (Value.int IntKind.i64 x) ∧ ∃
 (x_42 : Int), World.cell? w' (Addr.add (Addr.mk g 0 none) 1) = some (Value.int IntKind.i64 x_42) ∧ ∃ (x_43 : Int), World.cell? w' (Addr.add (Addr.mk g 0 none) 2) = some
 (Value.int IntKind.i64 x_43) ∧ ∃ (x_44 : Option Addr) (x_45 x_46 : Nat), World.cell? w' (Addr.add (Addr.mk g 0 none) 3) = some (Value.slice x_44 x_45 x_46) ∧ ∃ (x_47 : Option Addr) (x_48
 x_49 : Nat), World.cell? w' (Addr.add (Addr.mk g 0 none) 4) = some (Value.slice x_47 x_48 x_49) ∧ ∃ (x_50 : Option Addr) (x_51 x_52 : Nat), World.cell? w' (Addr.add (Addr.mk g 0
 none) 5) = some (Value.slice x_50 x_51 x_52) ∧ ∃ (x_53 : Option Addr) (x_54 x_55 : Nat), World.cell? w' (Addr.add (Addr.mk g 0 none) 6) = some (Value.slice x_53 x_54 x_55) ∧
 ∃ (x_56 : Option Addr) (x_57 x_58 : Nat), World.cell? w' (Addr.add (Addr.mk g 0 none) 7) = some (Value.slice x_56 x_57 x_58) ∧ ∃ (x_59 : Option Addr) (x_60 x_61 : Nat), World.cell? w'
 (Addr.add (Addr.mk g 0 none) 8) = some (Value.slice x_59 x_60 x_61) ∧ CallsV Tryz.prog 11 #[Value.agg #[Value.int IntKind.i64 x, Value.int IntKind.i64 x_42, Value.int IntKind.i64 x_43,
 Value.slice x_44 x_45 x_46, Value.slice x_47 x_48 x_49, Value.slice x_50 x_51 x_52, Value.slice x_53 x_54 x_55, Value.slice x_56 x_57 x_58, Value.slice x_59 x_60 x_61], Value.agg #[Value.int
 IntKind.i64 (0 : Int), Value.int IntKind.i64 (0 : Int), Value.int IntKind.i64 (0 : Int), Value.slice none 0 0, Value.slice none 0 0, Value.slice none 0 0, Value.slice none 0
 0, Value.slice none 0 0, Value.slice none 0 0]] w' fun (v : Value) (w' : World) => ∃ (x : Bool), v = Value.bool x ∧ bif x then CallsV Tryz.prog 7 #[] w' fun (v : Value) (w' : World) => ∃
 (x : Bool), v = Value.bool x ∧ K (Value.bool x) w' else K (Value.bool false) w' else K (Value.bool false) w' else ∃ (x : Int), World.cell? w' (Addr.add (Addr.mk g 0 none) 0) =
 some (Value.int IntKind.i64 x) ∧ ∃ (x_42 : Int), World.cell? w' (Addr.add (Addr.mk g 0 none) 1) = some (Value.int IntKind.i64 x_42) ∧ ∃ (x_43 : Int), World.cell? w' (Addr.add
 (Addr.mk g 0 none) 2) = some (Value.int IntKind.i64 x_43) ∧ ∃ (x_44 : Option Addr) (x_45 x_46 : Nat), World.cell? w' (Addr.add (Addr.mk g 0 none) 3) = some (Value.slice x_44
 x_45 x_46) ∧ ∃ (x_47 : Option Addr) (x_48 x_49 : Nat), World.cell? w' (Addr.add (Addr.mk g 0 none) 4) = some (Value.slice x_47 x_48 x_49) ∧ ∃ (x_50 : Option Addr) (x_51 x_52 : Nat),
 World.cell? w' (Addr.add (Addr.mk g 0 none) 5) = some (Value.slice x_50 x_51 x_52) ∧ ∃ (x_53 : Option Addr) (x_54 x_55 : Nat), World.cell? w' (Addr.add (Addr.mk g 0 none) 6) =
 some (Value.slice x_53 x_54 x_55) ∧ ∃ (x_56 : Option Addr) (x_57 x_58 : Nat), World.cell? w' (Addr.add (Addr.mk g 0 none) 7) = some (Value.slice x_56 x_57 x_58) ∧ ∃ (x_59 : Option
 Addr) (x_60 x_61 : Nat), World.cell? w' (Addr.add (Addr.mk g 0 none) 8) = some (Value.slice x_59 x_60 x_61) ∧ CallsV Tryz.prog 8 #[Value.agg #[Value.int IntKind.i64 x, Value.int
 IntKind.i64 x_42, Value.int IntKind.i64 x_43, Value.slice x_44 x_45 x_46, Value.slice x_47 x_48 x_49, Value.slice x_50 x_51 x_52, Value.slice x_53 x_54 x_55, Value.slice x_56 x_57 x_58, Value.slice
 x_59 x_60 x_61]] w' fun (v : Value) (w' : World) => ∃ (x : Option Addr) (x_62 x_63 : Nat) (x_64 : Int), v = Value.tuple #[Value.slice x x_62 x_63, Value.int IntKind.i64 x_64] ∧ bif decide
 (x_64 = (0 : Int)) then CallsV Tryz.prog 13 #[Value.slice x x_62 x_63, Value.slice b_A b_n b_c] w' fun (v : Value) (w' : World) => ∃ (x : Bool), v = Value.bool x ∧ bif x then ∃ (x : Int), World.cell?
 w' (Addr.add (Addr.mk g 0 none) 0) = some (Value.int IntKind.i64 x) ∧ ∃ (x_65 : Int), World.cell? w' (Addr.add (Addr.mk g 0 none) 1) = some (Value.int IntKind.i64 x_65) ∧ ∃
 (x_66 : Int), World.cell? w' (Addr.add (Addr.mk g 0 none) 2) = some (Value.int IntKind.i64 x_66) ∧ ∃ (x_67 : Option Addr) (x_68 x_69 : Nat), World.cell? w' (Addr.add (Addr.mk g 0
 none) 3) = some (Value.slice x_67 x_68 x_69) ∧ ∃ (x_70 : Option Addr) (x_71 x_72 : Nat), World.cell? w' (Addr.add (Addr.mk g 0 none) 4) = some (Value.slice x_70 x_71 x_72) ∧
 ∃ (x_73 : Option Addr) (x_74 x_75 : Nat), World.cell? w' (Addr.add (Addr.mk g 0 none) 5) = some (Value.slice x_73 x_74 x_75) ∧ ∃ (x_76 : Option Addr) (x_77 x_78 : Nat), World.cell? w'
 (Addr.add (Addr.mk g 0 none) 6) = some (Value.slice x_76 x_77 x_78) ∧ ∃ (x_79 : Option Addr) (x_80 x_81 : Nat), World.cell? w' (Addr.add (Addr.mk g 0 none) 7) = some
 (Value.slice x_79 x_80 x_81) ∧ ∃ (x_82 : Option Addr) (x_83 x_84 : Nat), World.cell? w' (Addr.add (Addr.mk g 0 none) 8) = some (Value.slice x_82 x_83 x_84) ∧ CallsV Tryz.prog 12
 #[Value.agg #[Value.int IntKind.i64 x, Value.int IntKind.i64 x_65, Value.int IntKind.i64 x_66, Value.slice x_67 x_68 x_69, Value.slice x_70 x_71 x_72, Value.slice x_73 x_74 x_75, Value.slice x_76 x_77
 x_78, Value.slice x_79 x_80 x_81, Value.slice x_82 x_83 x_84]] w' fun (v : Value) (w' : World) => ∃ (x : Int), v = Value.int IntKind.i64 x ∧ bif decide (x = (0 : Int)) then CallsV Tryz.prog 7
 #[] w' fun (v : Value) (w' : World) => ∃ (x : Bool), v = Value.bool x ∧ K (Value.bool x) w' else K (Value.bool false) w' else K (Value.bool false) w' else K (Value.bool false) w') ∧ ∃ (x
 : Int), World.cell? w' (Addr.add (Addr.mk g 0 none) 0) = some (Value.int IntKind.i64 x) ∧ ∃ (x_21 : Int), World.cell? w' (Addr.add (Addr.mk g 0 none) 1) = some (Value.int
 IntKind.i64 x_21) ∧ ∃ (x_22 : Int), World.cell? w' (Addr.add (Addr.mk g 0 none) 2) = some (Value.int IntKind.i64 x_22) ∧ ∃ (x_23 : Option Addr) (x_24 x_25 : Nat), World.cell? w' (Addr.add
 (Addr.mk g 0 none) 3) = some (Value.slice x_23 x_24 x_25) ∧ ∃ (x_26 : Option Addr) (x_27 x_28 : Nat), World.cell? w' (Addr.add (Addr.mk g 0 none) 4) = some (Value.slice x_26
 x_27 x_28) ∧ ∃ (x_29 : Option Addr) (x_30 x_31 : Nat), World.cell? w' (Addr.add (Addr.mk g 0 none) 5) = some (Value.slice x_29 x_30 x_31) ∧ ∃ (x_32 : Option Addr) (x_33 x_34 : Nat),
 World.cell? w' (Addr.add (Addr.mk g 0 none) 6) = some (Value.slice x_32 x_33 x_34) ∧ ∃ (x_35 : Option Addr) (x_36 x_37 : Nat), World.cell? w' (Addr.add (Addr.mk g 0 none) 7) =
 some (Value.slice x_35 x_36 x_37) ∧ ∃ (x_38 : Option Addr) (x_39 x_40 : Nat), World.cell? w' (Addr.add (Addr.mk g 0 none) 8) = some (Value.slice x_38 x_39 x_40) ∧ CallsV Tryz.prog
 8 #[Value.agg #[Value.int IntKind.i64 x, Value.int IntKind.i64 x_21, Value.int IntKind.i64 x_22, Value.slice x_23 x_24 x_25, Value.slice x_26 x_27 x_28, Value.slice x_29 x_30 x_31, Value.slice x_32
 x_33 x_34, Value.slice x_35 x_36 x_37, Value.slice x_38 x_39 x_40]] w' fun (v : Value) (w' : World) => ∃ (x : Option Addr) (x_41 x_42 : Nat) (x_43 : Int), v = Value.tuple #[Value.slice x x_41 x_42,
 Value.int IntKind.i64 x_43] ∧ bif decide (x_43 = (0 : Int)) then CallsV Tryz.prog 9 #[Value.slice x x_41 x_42] w' fun (v : Value) (w' : World) => ∃ (x x_44 x_45 : Int) (x_46 : Option Addr)
 (x_47 x_48 : Nat) (x_49 : Option Addr) (x_50 x_51 : Nat) (x_52 : Option Addr) (x_53 x_54 : Nat) (x_55 : Option Addr) (x_56 x_57 : Nat) (x_58 : Option Addr) (x_59 x_60 : Nat) (x_61 : Option Addr) (x_62
 x_63 : Nat) (x_64 : Int), v = Value.tuple #[Value.agg #[Value.int IntKind.i64 x, Value.int IntKind.i64 x_44, Value.int IntKind.i64 x_45, Value.slice x_46 x_47 x_48, Value.slice x_49 x_50 x_51,
 Value.slice x_52 x_53 x_54, Value.slice x_55 x_56 x_57, Value.slice x_58 x_59 x_60, Value.slice x_61 x_62 x_63], Value.int IntKind.i64 x_64] ∧ ∀ (g_1 : Nat) (w'_1 : World), Fresh w' g_1 w'_1 [Value.int
 IntKind.i64 (0 : Int), Value.int IntKind.i64 (0 : Int), Value.int IntKind.i64 (0 : Int), Value.slice none 0 0, Value.slice none 0 0, Value.slice none 0 0, Value.slice none 0
 0, Value.slice none 0 0, Value.slice none 0 0] 29 → stOK (Addr.mk g_1 0 none) 0 [Value.int IntKind.i64 x, Value.int IntKind.i64 x_44, Value.int IntKind.i64 x_45, Value.slice x_46
 x_47 x_48, Value.slice x_49 x_50 x_51, Value.slice x_52 x_53 x_54, Value.slice x_55 x_56 x_57, Value.slice x_58 x_59 x_60, Value.slice x_61 x_62 x_63] w'_1 ∧ ∀ (w' : World), w' = setAll (Addr.mk g_1 0
 none) 0 [Value.int IntKind.i64 x, Value.int IntKind.i64 x_44, Value.int IntKind.i64 x_45, Value.slice x_46 x_47 x_48, Value.slice x_49 x_50 x_51, Value.slice x_52 x_53 x_54, Value.slice x_55
 x_56 x_57, Value.slice x_58 x_59 x_60, Value.slice x_61 x_62 x_63] w'_1 → bif !decide (x_64 = (0 : Int)) then K (Value.bool false) w' else ∃ (x : Int), World.cell? w' (Addr.add (Addr.mk
 g 0 none) 0) = some (Value.int IntKind.i64 x) ∧ ∃ (x_65 : Int), World.cell? w' (Addr.add (Addr.mk g 0 none) 1) = some (Value.int IntKind.i64 x_65) ∧ ∃ (x_66 : Int),
 World.cell? w' (Addr.add (Addr.mk g 0 none) 2) = some (Value.int IntKind.i64 x_66) ∧ ∃ (x_67 : Option Addr) (x_68 x_69 : Nat), World.cell? w' (Addr.add (Addr.mk g 0 none) 3) =
 some (Value.slice x_67 x_68 x_69) ∧ ∃ (x_70 : Option Addr) (x_71 x_72 : Nat), World.cell? w' (Addr.add (Addr.mk g 0 none) 4) = some (Value.slice x_70 x_71 x_72) ∧ ∃ (x_73 : Option
 Addr) (x_74 x_75 : Nat), World.cell? w' (Addr.add (Addr.mk g 0 none) 5) = some (Value.slice x_73 x_74 x_75) ∧ ∃ (x_76 : Option Addr) (x_77 x_78 : Nat), World.cell? w' (Addr.add (Addr.mk g
 0 none) 6) = some (Value.slice x_76 x_77 x_78) ∧ ∃ (x_79 : Option Addr) (x_80 x_81 : Nat), World.cell? w' (Addr.add (Addr.mk g 0 none) 7) = some (Value.slice x_79 x_80 x_81)
 ∧ ∃ (x_82 : Option Addr) (x_83 x_84 : Nat), World.cell? w' (Addr.add (Addr.mk g 0 none) 8) = some (Value.slice x_82 x_83 x_84) ∧ ∃ (x_85 : Int), World.cell? w' (Addr.add (Addr.mk g_1 0
 none) 0) = some (Value.int IntKind.i64 x_85) ∧ ∃ (x_86 : Int), World.cell? w' (Addr.add (Addr.mk g_1 0 none) 1) = some (Value.int IntKind.i64 x_86) ∧ ∃ (x_87 : Int),
 World.cell? w' (Addr.add (Addr.mk g_1 0 none) 2) = some (Value.int IntKind.i64 x_87) ∧ ∃ (x_88 : Option Addr) (x_89 x_90 : Nat), World.cell? w' (Addr.add (Addr.mk g_1 0 none) 3) =
 some (Value.slice x_88 x_89 x_90) ∧ ∃ (x_91 : Option Addr) (x_92 x_93 : Nat), World.cell? w' (Addr.add (Addr.mk g_1 0 none) 4) = some (Value.slice x_91 x_92 x_93) ∧ ∃ (x_94 :
 Option Addr) (x_95 x_96 : Nat), World.cell? w' (Addr.add (Addr.mk g_1 0 none) 5) = some (Value.slice x_94 x_95 x_96) ∧ ∃ (x_97 : Option Addr) (x_98 x_99 : Nat), World.cell? w' (Addr.add
 (Addr.mk g_1 0 none) 6) = some (Value.slice x_97 x_98 x_99) ∧ ∃ (x_100 : Option Addr) (x_101 x_102 : Nat), World.cell? w' (Addr.add (Addr.mk g_1 0 none) 7) = some
 (Value.slice x_100 x_101 x_102) ∧ ∃ (x_103 : Option Addr) (x_104 x_105 : Nat), World.cell? w' (Addr.add (Addr.mk g_1 0 none) 8) = some (Value.slice x_103 x_104 x_105) ∧ CallsV Tryz.prog
 11 #[Value.agg #[Value.int IntKind.i64 x, Value.int IntKind.i64 x_65, Value.int IntKind.i64 x_66, Value.slice x_67 x_68 x_69, Value.slice x_70 x_71 x_72, Value.slice x_73 x_74 x_75, Value.slice x_76
 x_77 x_78, Value.slice x_79 x_80 x_81, Value.slice x_82 x_83 x_84], Value.agg #[Value.int IntKind.i64 x_85, Value.int IntKind.i64 x_86, Value.int IntKind.i64 x_87, Value.slice x_88 x_89 x_90,
 Value.slice x_91 x_92 x_93, Value.slice x_94 x_95 x_96, Value.slice x_97 x_98 x_99, Value.slice x_100 x_101 x_102, Value.slice x_103 x_104 x_105]] w' fun (v : Value) (w' : World) => ∃ (x : Bool), v =
 Value.bool x ∧ bif !x then K (Value.bool false) w' else J w' else ∃ (x : Int), World.cell? w' (Addr.add (Addr.mk g 0 none) 0) = some (Value.int IntKind.i64 x) ∧ ∃ (x_44 : Int),
 World.cell? w' (Addr.add (Addr.mk g 0 none) 1) = some (Value.int IntKind.i64 x_44) ∧ ∃ (x_45 : Int), World.cell? w' (Addr.add (Addr.mk g 0 none) 2) = some (Value.int
 IntKind.i64 x_45) ∧ ∃ (x_46 : Option Addr) (x_47 x_48 : Nat), World.cell? w' (Addr.add (Addr.mk g 0 none) 3) = some (Value.slice x_46 x_47 x_48) ∧ ∃ (x_49 : Option Addr) (x_50 x_51 :
 Nat), World.cell? w' (Addr.add (Addr.mk g 0 none) 4) = some (Value.slice x_49 x_50 x_51) ∧ ∃ (x_52 : Option Addr) (x_53 x_54 : Nat), World.cell? w' (Addr.add (Addr.mk g 0 none) 5)
 = some (Value.slice x_52 x_53 x_54) ∧ ∃ (x_55 : Option Addr) (x_56 x_57 : Nat), World.cell? w' (Addr.add (Addr.mk g 0 none) 6) = some (Value.slice x_55 x_56 x_57) ∧ ∃ (x_58 :
 Option Addr) (x_59 x_60 : Nat), World.cell? w' (Addr.add (Addr.mk g 0 none) 7) = some (Value.slice x_58 x_59 x_60) ∧ ∃ (x_61 : Option Addr) (x_62 x_63 : Nat), World.cell? w' (Addr.add
 (Addr.mk g 0 none) 8) = some (Value.slice x_61 x_62 x_63) ∧ CallsV Tryz.prog 12 #[Value.agg #[Value.int IntKind.i64 x, Value.int IntKind.i64 x_44, Value.int IntKind.i64 x_45, Value.slice
 x_46 x_47 x_48, Value.slice x_49 x_50 x_51, Value.slice x_52 x_53 x_54, Value.slice x_55 x_56 x_57, Value.slice x_58 x_59 x_60, Value.slice x_61 x_62 x_63]] w' fun (v : Value) (w' : World) => ∃ (x :
 Int), v = Value.int IntKind.i64 x ∧ bif !decide (decide (x_43 = (140 : Int)) = !decide (x = (0 : Int))) then K (Value.bool false) w' else J w'
theorem cardindexlaw15_CodeBack.calls (ok : Okay Tryz.prog) {p0 : Int} {p1 : Int} {p2 : Int} {p3_A : Option Addr} {p3_n : Nat} {p3_c : Nat} {p4_A : Option Addr} {p4_n : Nat} {p4_c : Nat} {p5_A : Option Addr} {p5_n : Nat} {p5_c : Nat} {p6_A : Option Addr} {p6_n : Nat} {p6_c : Nat} {p7_A : Option Addr} {p7_n : Nat} {p7_c : Nat} {p8_A : Option Addr} {p8_n : Nat} {p8_c : Nat} {b_A : Option Addr} {b_n : Nat} {b_c : Nat} {w : World} {K : Value → World → Prop} (h : cardindexlaw15_CodeBack.W p0 p1 p2 p3_A p3_n p3_c p4_A p4_n p4_c p5_A p5_n p5_c p6_A p6_n p6_c p7_A p7_n p7_c p8_A p8_n p8_c b_A b_n b_c w K) : CallsV Tryz.prog 4 #[.agg #[.int .i64 p0, .int .i64 p1, .int .i64 p2, .slice p3_A p3_n p3_c, .slice p4_A p4_n p4_c, .slice p5_A p5_n p5_c, .slice p6_A p6_n p6_c, .slice p7_A p7_n p7_c, .slice p8_A p8_n p8_c], .slice b_A b_n b_c] w K :=
  fnW_calls ok Tryz.func4 (an := (.named (.seq .auto (.seq .auto (.join [] .auto .auto))))) (args := [.agg #[.int .i64 p0, .int .i64 p1, .int .i64 p2, .slice p3_A p3_n p3_c, .slice p4_A p4_n p4_c, .slice p5_A p5_n p5_c, .slice p6_A p6_n p6_c, .slice p7_A p7_n p7_c, .slice p8_A p8_n p8_c], .slice b_A b_n b_c]) (Eq.mp (by kernel_rfl) h)
end Go.Proofs.YtaifphjenebgoaaGreatDoor
set_option linter.unusedVariables false
set_option maxRecDepth 100000
namespace Go.Proofs.YtaifphjenebgoaaGreatDoor
open Go Go.Sx
noncomputable def code_Read.W : Option Addr → Nat → Nat → World → (Value → World → Prop) → Prop := fun (b_A : Option Addr) (b_n b_c : Nat) (w : World) (K : Value → World → Prop) => ∀ (g : Nat) (w' :
 World), Fresh w g w' [Value.int IntKind.i64 (0 : Int), Value.int IntKind.i64 (0 : Int), Value.int IntKind.i64 (0 : Int), Value.slice none 0 0, Value.slice none 0 0, Value.slice
 none 0 0, Value.slice none 0 0, Value.slice none 0 0, Value.slice none 0 0] 29 → ∀ (g_1 : Nat) (w'_1 : World), Fresh w' g_1 w'_1 [Value.slice b_A b_n b_c, Value.int
 IntKind.i64 (0 : Int), Value.bool false] 72 → ∀ (g_2 : Nat) (w' : World), Fresh w'_1 g_2 w' [Value.pointer none] 70 → stOK (Addr.mk g_2 0 none) 0 [Value.pointer (some (Addr.mk
 g_1 0 none))] w' ∧ ∀ (w'_2 : World), w'_2 = setAll (Addr.mk g_2 0 none) 0 [Value.pointer (some (Addr.mk g_1 0 none))] w' → ∀ (g_3 : Nat) (w' : World), Fresh w'_2 g_3 w'
 [Value.int IntKind.i64 (0 : Int), Value.int IntKind.i64 (0 : Int), Value.int IntKind.i64 (0 : Int), Value.slice none 0 0, Value.slice none 0 0, Value.slice none 0 0, Value.slice
 none 0 0, Value.slice none 0 0, Value.slice none 0 0] 29 → ∃ (x : Option Addr), World.cell? w' (Addr.mk g_2 0 none) = some (Value.pointer x) ∧ CallsV Tryz.prog 30
 #[Value.pointer x, Value.int IntKind.i64 (1099511627776 : Int)] w' fun (v : Value) (w' : World) => ∃ (x : Int), v = Value.int IntKind.i64 x ∧ stOK (Addr.add (Addr.mk g_3 0 none) 0) 0 [Value.int
 IntKind.i64 x] w' ∧ ∀ (w'_3 : World), w'_3 = setAll (Addr.add (Addr.mk g_3 0 none) 0) 0 [Value.int IntKind.i64 x] w' → ∃ (x : Option Addr), World.cell? w'_3 (Addr.mk g_2 0 none) =
 some (Value.pointer x) ∧ CallsV Tryz.prog 30 #[Value.pointer x, Value.int IntKind.i64 (250 : Int)] w'_3 fun (v : Value) (w' : World) => ∃ (x : Int), v = Value.int IntKind.i64 x ∧ stOK (Addr.add
 (Addr.mk g_3 0 none) 1) 0 [Value.int IntKind.i64 x] w' ∧ ∀ (w'_4 : World), w'_4 = setAll (Addr.add (Addr.mk g_3 0 none) 1) 0 [Value.int IntKind.i64 x] w' → ∃ (x : Option Addr),
 World.cell? w'_4 (Addr.mk g_2 0 none) = some (Value.pointer x) ∧ CallsV Tryz.prog 30 #[Value.pointer x, Value.int IntKind.i64 (1000 : Int)] w'_4 fun (v : Value) (w' : World) => ∃ (x :
 Int), v = Value.int IntKind.i64 x ∧ stOK (Addr.add (Addr.mk g_3 0 none) 2) 0 [Value.int IntKind.i64 x] w' ∧ ∀ (w'_5 : World), w'_5 = setAll (Addr.add (Addr.mk g_3 0 none) 2) 0 [Value.int
 IntKind.i64 x] w' → ∃ (x : Option Addr), World.cell? w'_5 (Addr.mk g_2 0 none) = some (Value.pointer x) ∧ CallsV Tryz.prog 31 #[Value.pointer x, Value.int IntKind.i64 (200 : Int),
 Value.func (Fn.func 32) #[] #[Value.pointer (some (Addr.mk g_2 0 none))]] w'_5 fun (v : Value) (w' : World) => ∃ (x : Option Addr) (x_1 x_2 : Nat), v = Value.slice x x_1 x_2 ∧ stOK
 (Addr.add (Addr.mk g_3 0 none) 3) 0 [Value.slice x x_1 x_2] w' ∧ ∀ (w'_6 : World), w'_6 = setAll (Addr.add (Addr.mk g_3 0 none) 3) 0 [Value.slice x x_1 x_2] w' → ∃ (x : Option Addr),
 World.cell? w'_6 (Addr.mk g_2 0 none) = some (Value.pointer x) ∧ ∃ (x_3 : Option Addr), World.cell? w'_6 (Addr.mk g_2 0 none) = some (Value.pointer x_3) ∧ CallsV Tryz.prog
 34 #[Value.pointer x, Value.int IntKind.i64 (1000 : Int), Value.func (Fn.func 35) #[Value.pointer x_3] #[]] w'_6 fun (v : Value) (w' : World) => ∃ (x : Option Addr) (x_4 x_5 : Nat), v = Value.slice x
 x_4 x_5 ∧ stOK (Addr.add (Addr.mk g_3 0 none) 4) 0 [Value.slice x x_4 x_5] w' ∧ ∀ (w'_7 : World), w'_7 = setAll (Addr.add (Addr.mk g_3 0 none) 4) 0 [Value.slice x x_4 x_5] w' → ∃ (x :
 Option Addr), World.cell? w'_7 (Addr.mk g_2 0 none) = some (Value.pointer x) ∧ ∃ (x_6 : Option Addr), World.cell? w'_7 (Addr.mk g_2 0 none) = some (Value.pointer x_6) ∧
 CallsV Tryz.prog 36 #[Value.pointer x, Value.int IntKind.i64 (12 : Int), Value.func (Fn.func 37) #[Value.pointer x_6] #[]] w'_7 fun (v : Value) (w' : World) => ∃ (x : Option Addr) (x_7 x_8 : Nat), v =
 Value.slice x x_7 x_8 ∧ stOK (Addr.add (Addr.mk g_3 0 none) 5) 0 [Value.slice x x_7 x_8] w' ∧ ∀ (w'_8 : World), w'_8 = setAll (Addr.add (Addr.mk g_3 0 none) 5) 0 [Value.slice x x_7 x_8]
 w' → ∃ (x : Option Addr), World.cell? w'_8 (Addr.mk g_2 0 none) = some (Value.pointer x) ∧ ∃ (x_9 : Option Addr), World.cell? w'_8 (Addr.mk g_2 0 none) = some (Value.pointer
 x_9) ∧ CallsV Tryz.prog 38 #[Value.pointer x, Value.int IntKind.i64 (6 : Int), Value.func (Fn.func 39) #[Value.pointer x_9] #[]] w'_8 fun (v : Value) (w' : World) => ∃ (x : Option Addr) (x_10 x_11 :
 Nat), v = Value.slice x x_10 x_11 ∧ stOK (Addr.add (Addr.mk g_3 0 none) 6) 0 [Value.slice x x_10 x_11] w' ∧ ∀ (w'_9 : World), w'_9 = setAll (Addr.add (Addr.mk g_3 0 none) 6) 0
 [Value.slice x x_10 x_11] w' → ∃ (x : Option Addr), World.cell? w'_9 (Addr.mk g_2 0 none) = some (Value.pointer x) ∧ ∃ (x_12 : Option Addr), World.cell? w'_9 (Addr.mk g_2 0 none) =
 some (Value.pointer x_12) ∧ CallsV Tryz.prog 40 #[Value.pointer x, Value.int IntKind.i64 (60 : Int), Value.func (Fn.func 41) #[Value.pointer x_12] #[]] w'_9 fun (v : Value) (w' : World) => ∃ (x
 : Option Addr) (x_13 x_14 : Nat), v = Value.slice x x_13 x_14 ∧ stOK (Addr.add (Addr.mk g_3 0 none) 7) 0 [Value.slice x x_13 x_14] w' ∧ ∀ (w'_10 : World), w'_10 = setAll (Addr.add (Addr.mk g_3 0
 none) 7) 0 [Value.slice x x_13 x_14] w' → ∃ (x : Option Addr), World.cell? w'_10 (Addr.mk g_2 0 none) = some (Value.pointer x) ∧ ∃ (x_15 : Option Addr), World.cell? w'_10 (Addr.mk
 g_2 0 none) = some (Value.pointer x_15) ∧ CallsV Tryz.prog 42 #[Value.pointer x, Value.int IntKind.i64 (4000 : Int), Value.func (Fn.func 43) #[Value.pointer x_15] #[]] w'_10 fun (v :
 Value) (w' : World) => ∃ (x : Option Addr) (x_16 x_17 : Nat), v = Value.slice x x_16 x_17 ∧ stOK (Addr.add (Addr.mk g_3 0 none) 8) 0 [Value.slice x x_16 x_17] w' ∧ ∀ (w'_11 : World), w'_11 =
 setAll (Addr.add (Addr.mk g_3 0 none) 8) 0 [Value.slice x x_16 x_17] w' → ∃ (x : Option Addr), World.cell? w'_11 (Addr.mk g_2 0 none) = some (Value.pointer x) ∧ ∃ (a : Addr), x =
 some a ∧ ∃ (x : Bool), World.cell? w'_11 (Addr.add a 2) = some (Value.bool x) ∧ bif x then stOK (Addr.mk g 0 none) 0 [Value.int IntKind.i64 (0 : Int), Value.int IntKind.i64 (0 :
 Int), Value.int IntKind.i64 (0 : Int), Value.slice none 0 0, Value.slice none 0 0, Value.slice none 0 0, Value.slice none 0 0, Value.slice none 0 0, Value.slice
 none 0 0] w'_11 ∧ ∀ (w' : World), w' = setAll (Addr.mk g 0 none) 0 [Value.int IntKind.i64 (0 : Int), Value.int IntKind.i64 (0 : Int), Value.int IntKind.i64 (0 : Int), Value.slice
 none 0 0, Value.slice none 0 0, Value.slice none 0 0, Value.slice none 0 0, Value.slice none 0 0, Value.slice none 0 0] w'_11 → ∃ (x : Int), World.cell? w'
 (Addr.add (Addr.mk g 0 none) 0) = some (Value.int IntKind.i64 x) ∧ ∃ (x_18 : Int), World.cell? w' (Addr.add (Addr.mk g 0 none) 1) = some (Value.int IntKind.i64 x_18) ∧ ∃
 (x_19 : Int), World.cell? w' (Addr.add (Addr.mk g 0 none) 2) = some (Value.int IntKind.i64 x_19) ∧ ∃ (x_20 : Option Addr) (x_21 x_22 : Nat), World.cell? w' (Addr.add (Addr.mk g 0
 none) 3) = some (Value.slice x_20 x_21 x_22) ∧ ∃ (x_23 : Option Addr) (x_24 x_25 : Nat), World.cell? w' (Addr.add (Addr.mk g 0 none) 4) = some (Value.slice x_23 x_24 x_25) ∧
 ∃ (x_26 : Option Addr) (x_27 x_28 : Nat), World.cell? w' (Addr.add (Addr.mk g 0 none) 5) = some (Value.slice x_26 x_27 x_28) ∧ ∃ (x_29 : Option Addr) (x_30 x_31 : Nat), World.cell? w'
 (Addr.add (Addr.mk g 0 none) 6) = some (Value.slice x_29 x_30 x_31) ∧ ∃ (x_32 : Option Addr) (x_33 x_34 : Nat), World.cell? w' (Addr.add (Addr.mk g 0 none) 7) = some
 (Value.slice x_32 x_33 x_34) ∧ ∃ (x_35 : Option Addr) (x_36 x_37 : Nat), World.cell? w' (Addr.add (Addr.mk g 0 none) 8) = some (Value.slice x_35 x_36 x_37) ∧ K (Value.tuple #[Value.agg
 #[Value.int IntKind.i64 x, Value.int IntKind.i64 x_18, Value.int IntKind.i64 x_19, Value.slice x_20 x_21 x_22, Value.slice x_23 x_24 x_25, Value.slice x_26 x_27 x_28, Value.slice x_29 x_30 x_31,
 Value.slice x_32 x_33 x_34, Value.slice x_35 x_36 x_37], Value.int IntKind.i64 (140 : Int)]) w' else ∃ (x : Option Addr), World.cell? w'_11 (Addr.mk g_2 0 none) = some (Value.pointer x) ∧
 ∃ (a : Addr), x = some a ∧ ∃ (x : Int), World.cell? w'_11 (Addr.add a 1) = some (Value.int IntKind.i64 x) ∧ bif !decide (x = (↑b_n : Int)) then stOK (Addr.mk g 0 none) 0
 [Value.int IntKind.i64 (0 : Int), Value.int IntKind.i64 (0 : Int), Value.int IntKind.i64 (0 : Int), Value.slice none 0 0, Value.slice none 0 0, Value.slice none 0 0, Value.slice
 none 0 0, Value.slice none 0 0, Value.slice none 0 0] w'_11 ∧ ∀ (w' : World), w' = setAll (Addr.mk g 0 none) 0 [Value.int IntKind.i64 (0 : Int), Value.int IntKind.i64 (0 :
 Int), Value.int IntKind.i64 (0 : Int), Value.slice none 0 0, Value.slice none 0 0, Value.slice none 0 0, Value.slice none 0 0, Value.slice none 0 0, Value.slice
 none 0 0] w'_11 → ∃ (x : Int), World.cell? w' (Addr.add (Addr.mk g 0 none) 0) = some (Value.int IntKind.i64 x) ∧ ∃ (x_18 : Int), World.cell? w' (Addr.add (Addr.mk g 0 none)
 1) = some (Value.int IntKind.i64 x_18) ∧ ∃ (x_19 : Int), World.cell? w' (Addr.add (Addr.mk g 0 none) 2) = some (Value.int IntKind.i64 x_19) ∧ ∃ (x_20 : Option Addr) (x_21 x_22 :
 Nat), World.cell? w' (Addr.add (Addr.mk g 0 none) 3) = some (Value.slice x_20 x_21 x_22) ∧ ∃ (x_23 : Option Addr) (x_24 x_25 : Nat), World.cell? w' (Addr.add (Addr.mk g 0 none) 4)
 = some (Value.slice x_23 x_24 x_25) ∧ ∃ (x_26 : Option Addr) (x_27 x_28 : Nat), World.cell? w' (Addr.add (Addr.mk g 0 none) 5) = some (Value.slice x_26 x_27 x_28) ∧ ∃ (x_29 :
 Option Addr) (x_30 x_31 : Nat), World.cell? w' (Addr.add (Addr.mk g 0 none) 6) = some (Value.slice x_29 x_30 x_31) ∧ ∃ (x_32 : Option Addr) (x_33 x_34 : Nat), World.cell? w' (Addr.add
 (Addr.mk g 0 none) 7) = some (Value.slice x_32 x_33 x_34) ∧ ∃ (x_35 : Option Addr) (x_36 x_37 : Nat), World.cell? w' (Addr.add (Addr.mk g 0 none) 8) = some (Value.slice x_35
 x_36 x_37) ∧ K (Value.tuple #[Value.agg #[Value.int IntKind.i64 x, Value.int IntKind.i64 x_18, Value.int IntKind.i64 x_19, Value.slice x_20 x_21 x_22, Value.slice x_23 x_24 x_25, Value.slice x_26 x_27
 x_28, Value.slice x_29 x_30 x_31, Value.slice x_32 x_33 x_34, Value.slice x_35 x_36 x_37], Value.int IntKind.i64 (140 : Int)]) w' else bif decide ((1048576 : Int) < (↑b_n : Int)) then stOK
 (Addr.mk g 0 none) 0 [Value.int IntKind.i64 (0 : Int), Value.int IntKind.i64 (0 : Int), Value.int IntKind.i64 (0 : Int), Value.slice none 0 0, Value.slice none 0 0, Value.slice
 none 0 0, Value.slice none 0 0, Value.slice none 0 0, Value.slice none 0 0] w'_11 ∧ ∀ (w' : World), w' = setAll (Addr.mk g 0 none) 0 [Value.int IntKind.i64 (0 : Int),
 Value.int IntKind.i64 (0 : Int), Value.int IntKind.i64 (0 : Int), Value.slice none 0 0, Value.slice none 0 0, Value.slice none 0 0, Value.slice none 0 0, Value.slice
 none 0 0, Value.slice none 0 0] w'_11 → ∃ (x : Int), World.cell? w' (Addr.add (Addr.mk g 0 none) 0) = some (Value.int IntKind.i64 x) ∧ ∃ (x_18 : Int), World.cell? w'
 (Addr.add (Addr.mk g 0 none) 1) = some (Value.int IntKind.i64 x_18) ∧ ∃ (x_19 : Int), World.cell? w' (Addr.add (Addr.mk g 0 none) 2) = some (Value.int IntKind.i64 x_19) ∧ ∃
 (x_20 : Option Addr) (x_21 x_22 : Nat), World.cell? w' (Addr.add (Addr.mk g 0 none) 3) = some (Value.slice x_20 x_21 x_22) ∧ ∃ (x_23 : Option Addr) (x_24 x_25 : Nat), World.cell? w'
 (Addr.add (Addr.mk g 0 none) 4) = some (Value.slice x_23 x_24 x_25) ∧ ∃ (x_26 : Option Addr) (x_27 x_28 : Nat), World.cell? w' (Addr.add (Addr.mk g 0 none) 5) = some
 (Value.slice x_26 x_27 x_28) ∧ ∃ (x_29 : Option Addr) (x_30 x_31 : Nat), World.cell? w' (Addr.add (Addr.mk g 0 none) 6) = some (Value.slice x_29 x_30 x_31) ∧ ∃ (x_32 : Option Addr) (x_33
 x_34 : Nat), World.cell? w' (Addr.add (Addr.mk g 0 none) 7) = some (Value.slice x_32 x_33 x_34) ∧ ∃ (x_35 : Option Addr) (x_36 x_37 : Nat), World.cell? w' (Addr.add (Addr.mk g 0
 none) 8) = some (Value.slice x_35 x_36 x_37) ∧ K (Value.tuple #[Value.agg #[Value.int IntKind.i64 x, Value.int IntKind.i64 x_18, Value.int IntKind.i64 x_19, Value.slice x_20 x_21 x_22,
 Value.slice x_23 x_24 x_25, Value.slice x_26 x_27 x_28, Value.slice x_29 x_30 x_31, Value.slice x_32 x_33 x_34, Value.slice x_35 x_36 x_37], Value.int IntKind.i64 (140 : Int)]) w' else ∃ (x : Int),
 World.cell? w'_11 (Addr.add (Addr.mk g_3 0 none) 0) = some (Value.int IntKind.i64 x) ∧ ∃ (x_18 : Int), World.cell? w'_11 (Addr.add (Addr.mk g_3 0 none) 1) = some (Value.int
 IntKind.i64 x_18) ∧ ∃ (x_19 : Int), World.cell? w'_11 (Addr.add (Addr.mk g_3 0 none) 2) = some (Value.int IntKind.i64 x_19) ∧ ∃ (x_20 : Option Addr) (x_21 x_22 : Nat), World.cell? w'_11
 (Addr.add (Addr.mk g_3 0 none) 3) = some (Value.slice x_20 x_21 x_22) ∧ ∃ (x_23 : Option Addr) (x_24 x_25 : Nat), World.cell? w'_11 (Addr.add (Addr.mk g_3 0 none) 4) = some
 (Value.slice x_23 x_24 x_25) ∧ ∃ (x_26 : Option Addr) (x_27 x_28 : Nat), World.cell? w'_11 (Addr.add (Addr.mk g_3 0 none) 5) = some (Value.slice x_26 x_27 x_28) ∧ ∃ (x_29 : Option Addr)
 (x_30 x_31 : Nat), World.cell? w'_11 (Addr.add (Addr.mk g_3 0 none) 6) = some (Value.slice x_29 x_30 x_31) ∧ ∃ (x_32 : Option Addr) (x_33 x_34 : Nat), World.cell? w'_11 (Addr.add (Addr.mk
 g_3 0 none) 7) = some (Value.slice x_32 x_33 x_34) ∧ ∃ (x_35 : Option Addr) (x_36 x_37 : Nat), World.cell? w'_11 (Addr.add (Addr.mk g_3 0 none) 8) = some (Value.slice x_35
 x_36 x_37) ∧ CallsV Tryz.prog 12 #[Value.agg #[Value.int IntKind.i64 x, Value.int IntKind.i64 x_18, Value.int IntKind.i64 x_19, Value.slice x_20 x_21 x_22, Value.slice x_23 x_24 x_25, Value.slice x_26
 x_27 x_28, Value.slice x_29 x_30 x_31, Value.slice x_32 x_33 x_34, Value.slice x_35 x_36 x_37]] w'_11 fun (v : Value) (w' : World) => ∃ (x : Int), v = Value.int IntKind.i64 x ∧ bif !decide (x
 = (0 : Int)) then stOK (Addr.mk g 0 none) 0 [Value.int IntKind.i64 (0 : Int), Value.int IntKind.i64 (0 : Int), Value.int IntKind.i64 (0 : Int), Value.slice none 0 0, Value.slice
 none 0 0, Value.slice none 0 0, Value.slice none 0 0, Value.slice none 0 0, Value.slice none 0 0] w' ∧ ∀ (w'_12 : World), w'_12 = setAll (Addr.mk g 0 none) 0
 [Value.int IntKind.i64 (0 : Int), Value.int IntKind.i64 (0 : Int), Value.int IntKind.i64 (0 : Int), Value.slice none 0 0, Value.slice none 0 0, Value.slice none 0 0, Value.slice
 none 0 0, Value.slice none 0 0, Value.slice none 0 0] w' → ∃ (x : Int), World.cell? w'_12 (Addr.add (Addr.mk g 0 none) 0) = some (Value.int IntKind.i64 x) ∧ ∃ (x_38 :
 Int), World.cell? w'_12 (Addr.add (Addr.mk g 0 none) 1) = some (Value.int IntKind.i64 x_38) ∧ ∃ (x_39 : Int), World.cell? w'_12 (Addr.add (Addr.mk g 0 none) 2) = some
 (Value.int IntKind.i64 x_39) ∧ ∃ (x_40 : Option Addr) (x_41 x_42 : Nat), World.cell? w'_12 (Addr.add (Addr.mk g 0 none) 3) = some (Value.slice x_40 x_41 x_42) ∧ ∃ (x_43 : Option Addr)
 (x_44 x_45 : Nat), World.cell? w'_12 (Addr.add (Addr.mk g 0 none) 4) = some (Value.slice x_43 x_44 x_45) ∧ ∃ (x_46 : Option Addr) (x_47 x_48 : Nat), World.cell? w'_12 (Addr.add (Addr.mk g
 0 none) 5) = some (Value.slice x_46 x_47 x_48) ∧ ∃ (x_49 : Option Addr) (x_50 x_51 : Nat), World.cell? w'_12 (Addr.add (Addr.mk g 0 none) 6) = some (Value.slice x_49 x_50
 x_51) ∧ ∃ (x_52 : Option Addr) (x_53 x_54 : Nat), World.cell? w'_12 (Addr.add (Addr.mk g 0 none) 7) = some (Value.slice x_52 x_53 x_54) ∧ ∃ (x_55 : Option Addr) (x_56 x_57 : Nat),
 World.cell? w'_12 (Addr.add (Addr.mk g 0 none) 8) = some (Value.slice x_55 x_56 x_57) ∧ K (Value.tuple #[Value.agg #[Value.int IntKind.i64 x, Value.int IntKind.i64 x_38, Value.int
 IntKind.i64 x_39, Value.slice x_40 x_41 x_42, Value.slice x_43 x_44 x_45, Value.slice x_46 x_47 x_48, Value.slice x_49 x_50 x_51, Value.slice x_52 x_53 x_54, Value.slice x_55 x_56 x_57], Value.int
 IntKind.i64 (140 : Int)]) w'_12 else ∃ (x : Int), World.cell? w' (Addr.add (Addr.mk g_3 0 none) 0) = some (Value.int IntKind.i64 x) ∧ ∃ (x_38 : Int), World.cell? w' (Addr.add (Addr.mk g_3
 0 none) 1) = some (Value.int IntKind.i64 x_38) ∧ ∃ (x_39 : Int), World.cell? w' (Addr.add (Addr.mk g_3 0 none) 2) = some (Value.int IntKind.i64 x_39) ∧ ∃ (x_40 : Option
 Addr) (x_41 x_42 : Nat), World.cell? w' (Addr.add (Addr.mk g_3 0 none) 3) = some (Value.slice x_40 x_41 x_42) ∧ ∃ (x_43 : Option Addr) (x_44 x_45 : Nat), World.cell? w' (Addr.add (Addr.mk
 g_3 0 none) 4) = some (Value.slice x_43 x_44 x_45) ∧ ∃ (x_46 : Option Addr) (x_47 x_48 : Nat), World.cell? w' (Addr.add (Addr.mk g_3 0 none) 5) = some (Value.slice x_46 x_47
 x_48) ∧ ∃ (x_49 : Option Addr) (x_50 x_51 : Nat), World.cell? w' (Addr.add (Addr.mk g_3 0 none) 6) = some (Value.slice x_49 x_50 x_51) ∧ ∃ (x_52 : Option Addr) (x_53 x_54 : Nat),
 World.cell? w' (Addr.add (Addr.mk g_3 0 none) 7) = some (Value.slice x_52 x_53 x_54) ∧ ∃ (x_55 : Option Addr) (x_56 x_57 : Nat), World.cell? w' (Addr.add (Addr.mk g_3 0 none) 8) =
 some (Value.slice x_55 x_56 x_57) ∧ stOK (Addr.mk g 0 none) 0 [Value.int IntKind.i64 x, Value.int IntKind.i64 x_38, Value.int IntKind.i64 x_39, Value.slice x_40 x_41 x_42, Value.slice
 x_43 x_44 x_45, Value.slice x_46 x_47 x_48, Value.slice x_49 x_50 x_51, Value.slice x_52 x_53 x_54, Value.slice x_55 x_56 x_57] w' ∧ ∀ (w'_12 : World), w'_12 = setAll (Addr.mk g 0 none) 0
 [Value.int IntKind.i64 x, Value.int IntKind.i64 x_38, Value.int IntKind.i64 x_39, Value.slice x_40 x_41 x_42, Value.slice x_43 x_44 x_45, Value.slice x_46 x_47 x_48, Value.slice x_49 x_50 x_51,
 Value.slice x_52 x_53 x_54, Value.slice x_55 x_56 x_57] w' → ∃ (x : Int), World.cell? w'_12 (Addr.add (Addr.mk g 0 none) 0) = some (Value.int IntKind.i64 x) ∧ ∃ (x_58 : Int), World.cell?
 w'_12 (Addr.add (Addr.mk g 0 none) 1) = some (Value.int IntKind.i64 x_58) ∧ ∃ (x_59 : Int), World.cell? w'_12 (Addr.add (Addr.mk g 0 none) 2) = some (Value.int IntKind.i64
 x_59) ∧ ∃ (x_60 : Option Addr) (x_61 x_62 : Nat), World.cell? w'_12 (Addr.add (Addr.mk g 0 none) 3) = some (Value.slice x_60 x_61 x_62) ∧ ∃ (x_63 : Option Addr) (x_64 x_65 : Nat),
 World.cell? w'_12 (Addr.add (Addr.mk g 0 none) 4) = some (Value.slice x_63 x_64 x_65) ∧ ∃ (x_66 : Option Addr) (x_67 x_68 : Nat), World.cell? w'_12 (Addr.add (Addr.mk g 0 none) 5)
 = some (Value.slice x_66 x_67 x_68) ∧ ∃ (x_69 : Option Addr) (x_70 x_71 : Nat), World.cell? w'_12 (Addr.add (Addr.mk g 0 none) 6) = some (Value.slice x_69 x_70 x_71) ∧ ∃ (x_72 :
 Option Addr) (x_73 x_74 : Nat), World.cell? w'_12 (Addr.add (Addr.mk g 0 none) 7) = some (Value.slice x_72 x_73 x_74) ∧ ∃ (x_75 : Option Addr) (x_76 x_77 : Nat), World.cell? w'_12
 (Addr.add (Addr.mk g 0 none) 8) = some (Value.slice x_75 x_76 x_77) ∧ K (Value.tuple #[Value.agg #[Value.int IntKind.i64 x, Value.int IntKind.i64 x_58, Value.int IntKind.i64 x_59,
 Value.slice x_60 x_61 x_62, Value.slice x_63 x_64 x_65, Value.slice x_66 x_67 x_68, Value.slice x_69 x_70 x_71, Value.slice x_72 x_73 x_74, Value.slice x_75 x_76 x_77], Value.int IntKind.i64 (0 :
 Int)]) w'_12
theorem code_Read.calls (ok : Okay Tryz.prog) {b_A : Option Addr} {b_n : Nat} {b_c : Nat} {w : World} {K : Value → World → Prop} (h : code_Read.W b_A b_n b_c w K) : CallsV Tryz.prog 9 #[.slice b_A b_n b_c] w K :=
  fnW_calls ok Tryz.func9 (an := (.named .auto)) (args := [.slice b_A b_n b_c]) (Eq.mp (by kernel_rfl) h)
end Go.Proofs.YtaifphjenebgoaaGreatDoor
set_option linter.unusedVariables false
set_option maxRecDepth 100000
namespace Go.Proofs.YtaifphjenebgoaaGreatDoor
open Go Go.Sx
noncomputable def code_some_string.W : Option Addr → Int → Value → World → (Value → World → Prop) → Prop := fun (r : Option Addr) (most : Int) (one : Value) (w : World) (K : Value → World → Prop) =>
 CallsV Tryz.prog 30 #[Value.pointer r, Value.int IntKind.i64 most] w fun (v : Value) (w' : World) => ∃ (x : Int), v = Value.int IntKind.i64 x ∧ ∃ (I : Option Addr → Nat → Nat → Int → World → Prop) (μ :
 Option Addr → Nat → Nat → Int → World → Nat), I none 0 0 x w' ∧ ∀ (x : Option Addr) (x_1 x_2 : Nat) (x_3 : Int) (w : World), I x x_1 x_2 x_3 w → bif decide ((0 : Int) < x_3) then ∃ (a
 : Addr), r = some a ∧ ∃ (x_4 : Bool), World.cell? w (Addr.add a 2) = some (Value.bool x_4) ∧ bif !x_4 then ∃ (fid : Nat) (first captured : Array Value), one = Value.func (Fn.func fid)
 first captured ∧ bodied Tryz.prog fid = true ∧ CallsV Tryz.prog fid (List.toArray (Array.toList first ++ ([] ++ Array.toList captured))) w fun (r : Value) (w' : World) => ∃ (x_5 : ByteArray), r =
 Value.string x_5 ∧ ∀ (g : Nat) (w'_1 : World), Fresh w' g w'_1 [Value.string x_5] 9 → ∃ (x_6 : Option Addr) (x_7 x_8 : Nat) (w' : World), RunsTo Tryz.prog (Builtin.append_ (Array.mk [22, 22]) 22
 #[Value.slice x x_1 x_2, Value.slice (some (Addr.mk g 0 none)) 1 1]) w'_1 (Value.slice x_6 x_7 x_8) w' ∧ I x_6 x_7 x_8 (IntKind.wrap IntKind.i64 (x_3 - (1 : Int))) w' ∧ μ x_6 x_7 x_8
 (IntKind.wrap IntKind.i64 (x_3 - (1 : Int))) w' < μ x x_1 x_2 x_3 w else K (Value.slice x x_1 x_2) w else K (Value.slice x x_1 x_2) w
theorem code_some_string.calls (ok : Okay Tryz.prog) {r : Option Addr} {most : Int} {one : Value} {w : World} {K : Value → World → Prop} (h : code_some_string.W r most one w K) : CallsV Tryz.prog 31 #[.pointer r, .int .i64 most, one] w K :=
  fnW_calls ok Tryz.func31 (an := (.named (.named (.seq .auto (.seq .auto (.seq (.seq .auto (.block (.loop [(7, .one .slc), (8, .one (.int .i64))] .auto))) .auto)))))) (args := [.pointer r, .int .i64 most, one]) (Eq.mp (by kernel_rfl) h)
noncomputable def code_some_api_Value.W : Option Addr → Int → Value → World → (Value → World → Prop) → Prop := fun (r : Option Addr) (most : Int) (one : Value) (w : World) (K : Value → World → Prop) =>
 CallsV Tryz.prog 30 #[Value.pointer r, Value.int IntKind.i64 most] w fun (v : Value) (w' : World) => ∃ (x : Int), v = Value.int IntKind.i64 x ∧ ∃ (I : Option Addr → Nat → Nat → Int → World → Prop) (μ :
 Option Addr → Nat → Nat → Int → World → Nat), I none 0 0 x w' ∧ ∀ (x : Option Addr) (x_1 x_2 : Nat) (x_3 : Int) (w : World), I x x_1 x_2 x_3 w → bif decide ((0 : Int) < x_3) then ∃ (a
 : Addr), r = some a ∧ ∃ (x_4 : Bool), World.cell? w (Addr.add a 2) = some (Value.bool x_4) ∧ bif !x_4 then ∃ (fid : Nat) (first captured : Array Value), one = Value.func (Fn.func fid)
 first captured ∧ bodied Tryz.prog fid = true ∧ CallsV Tryz.prog fid (List.toArray (Array.toList first ++ ([] ++ Array.toList captured))) w fun (r : Value) (w' : World) => ∃ (x_5 x_6 : Int) (x_7 :
 ByteArray), r = Value.agg #[Value.int IntKind.u8 x_5, Value.int IntKind.i64 x_6, Value.string x_7] ∧ ∀ (g : Nat) (w'_1 : World), Fresh w' g w'_1 [Value.int IntKind.u8 x_5, Value.int IntKind.i64 x_6,
 Value.string x_7] 54 → ∃ (x_8 : Option Addr) (x_9 x_10 : Nat) (w' : World), RunsTo Tryz.prog (Builtin.append_ (Array.mk [23, 23]) 23 #[Value.slice x x_1 x_2, Value.slice (some (Addr.mk g 0
 none)) 1 1]) w'_1 (Value.slice x_8 x_9 x_10) w' ∧ I x_8 x_9 x_10 (IntKind.wrap IntKind.i64 (x_3 - (1 : Int))) w' ∧ μ x_8 x_9 x_10 (IntKind.wrap IntKind.i64 (x_3 - (1 : Int))) w' < μ x x_1 x_2
 x_3 w else K (Value.slice x x_1 x_2) w else K (Value.slice x x_1 x_2) w
theorem code_some_api_Value.calls (ok : Okay Tryz.prog) {r : Option Addr} {most : Int} {one : Value} {w : World} {K : Value → World → Prop} (h : code_some_api_Value.W r most one w K) : CallsV Tryz.prog 34 #[.pointer r, .int .i64 most, one] w K :=
  fnW_calls ok Tryz.func34 (an := (.named (.named (.seq .auto (.seq .auto (.seq (.seq .auto (.block (.loop [(7, .one .slc), (8, .one (.int .i64))] .auto))) .auto)))))) (args := [.pointer r, .int .i64 most, one]) (Eq.mp (by kernel_rfl) h)
noncomputable def code_some_api_Cur.W : Option Addr → Int → Value → World → (Value → World → Prop) → Prop := fun (r : Option Addr) (most : Int) (one : Value) (w : World) (K : Value → World → Prop) =>
 CallsV Tryz.prog 30 #[Value.pointer r, Value.int IntKind.i64 most] w fun (v : Value) (w' : World) => ∃ (x : Int), v = Value.int IntKind.i64 x ∧ ∃ (I : Option Addr → Nat → Nat → Int → World → Prop) (μ :
 Option Addr → Nat → Nat → Int → World → Nat), I none 0 0 x w' ∧ ∀ (x : Option Addr) (x_1 x_2 : Nat) (x_3 : Int) (w : World), I x x_1 x_2 x_3 w → bif decide ((0 : Int) < x_3) then ∃ (a
 : Addr), r = some a ∧ ∃ (x_4 : Bool), World.cell? w (Addr.add a 2) = some (Value.bool x_4) ∧ bif !x_4 then ∃ (fid : Nat) (first captured : Array Value), one = Value.func (Fn.func fid)
 first captured ∧ bodied Tryz.prog fid = true ∧ CallsV Tryz.prog fid (List.toArray (Array.toList first ++ ([] ++ Array.toList captured))) w fun (r : Value) (w' : World) => ∃ (x_5 : ByteArray) (x_6
 x_7 : Bool), r = Value.agg #[Value.string x_5, Value.bool x_6, Value.bool x_7] ∧ ∀ (g : Nat) (w'_1 : World), Fresh w' g w'_1 [Value.string x_5, Value.bool x_6, Value.bool x_7] 56 → ∃ (x_8 : Option
 Addr) (x_9 x_10 : Nat) (w' : World), RunsTo Tryz.prog (Builtin.append_ (Array.mk [24, 24]) 24 #[Value.slice x x_1 x_2, Value.slice (some (Addr.mk g 0 none)) 1 1]) w'_1 (Value.slice x_8
 x_9 x_10) w' ∧ I x_8 x_9 x_10 (IntKind.wrap IntKind.i64 (x_3 - (1 : Int))) w' ∧ μ x_8 x_9 x_10 (IntKind.wrap IntKind.i64 (x_3 - (1 : Int))) w' < μ x x_1 x_2 x_3 w else K (Value.slice x x_1 x_2) w else
 K (Value.slice x x_1 x_2) w
theorem code_some_api_Cur.calls (ok : Okay Tryz.prog) {r : Option Addr} {most : Int} {one : Value} {w : World} {K : Value → World → Prop} (h : code_some_api_Cur.W r most one w K) : CallsV Tryz.prog 36 #[.pointer r, .int .i64 most, one] w K :=
  fnW_calls ok Tryz.func36 (an := (.named (.named (.seq .auto (.seq .auto (.seq (.seq .auto (.block (.loop [(7, .one .slc), (8, .one (.int .i64))] .auto))) .auto)))))) (args := [.pointer r, .int .i64 most, one]) (Eq.mp (by kernel_rfl) h)
noncomputable def code_some_api_Sort.W : Option Addr → Int → Value → World → (Value → World → Prop) → Prop := fun (r : Option Addr) (most : Int) (one : Value) (w : World) (K : Value → World → Prop) =>
 CallsV Tryz.prog 30 #[Value.pointer r, Value.int IntKind.i64 most] w fun (v : Value) (w' : World) => ∃ (x : Int), v = Value.int IntKind.i64 x ∧ ∃ (I : Option Addr → Nat → Nat → Int → World → Prop) (μ :
 Option Addr → Nat → Nat → Int → World → Nat), I none 0 0 x w' ∧ ∀ (x : Option Addr) (x_1 x_2 : Nat) (x_3 : Int) (w : World), I x x_1 x_2 x_3 w → bif decide ((0 : Int) < x_3) then ∃ (a
 : Addr), r = some a ∧ ∃ (x_4 : Bool), World.cell? w (Addr.add a 2) = some (Value.bool x_4) ∧ bif !x_4 then ∃ (fid : Nat) (first captured : Array Value), one = Value.func (Fn.func fid)
 first captured ∧ bodied Tryz.prog fid = true ∧ CallsV Tryz.prog fid (List.toArray (Array.toList first ++ ([] ++ Array.toList captured))) w fun (r : Value) (w' : World) => ∃ (x_5 : Option Addr)
 (x_6 x_7 : Nat) (x_8 : Int) (x_9 : Bool), r = Value.agg #[Value.slice x_5 x_6 x_7, Value.int IntKind.i64 x_8, Value.bool x_9] ∧ ∀ (g : Nat) (w'_1 : World), Fresh w' g w'_1 [Value.slice x_5 x_6 x_7,
 Value.int IntKind.i64 x_8, Value.bool x_9] 59 → ∃ (x_10 : Option Addr) (x_11 x_12 : Nat) (w' : World), RunsTo Tryz.prog (Builtin.append_ (Array.mk [25, 25]) 25 #[Value.slice x x_1 x_2, Value.slice
 (some (Addr.mk g 0 none)) 1 1]) w'_1 (Value.slice x_10 x_11 x_12) w' ∧ I x_10 x_11 x_12 (IntKind.wrap IntKind.i64 (x_3 - (1 : Int))) w' ∧ μ x_10 x_11 x_12 (IntKind.wrap IntKind.i64 (x_3 -
 (1 : Int))) w' < μ x x_1 x_2 x_3 w else K (Value.slice x x_1 x_2) w else K (Value.slice x x_1 x_2) w
theorem code_some_api_Sort.calls (ok : Okay Tryz.prog) {r : Option Addr} {most : Int} {one : Value} {w : World} {K : Value → World → Prop} (h : code_some_api_Sort.W r most one w K) : CallsV Tryz.prog 38 #[.pointer r, .int .i64 most, one] w K :=
  fnW_calls ok Tryz.func38 (an := (.named (.named (.seq .auto (.seq .auto (.seq (.seq .auto (.block (.loop [(7, .one .slc), (8, .one (.int .i64))] .auto))) .auto)))))) (args := [.pointer r, .int .i64 most, one]) (Eq.mp (by kernel_rfl) h)
noncomputable def code_some_api_Acc.W : Option Addr → Int → Value → World → (Value → World → Prop) → Prop := fun (r : Option Addr) (most : Int) (one : Value) (w : World) (K : Value → World → Prop) =>
 CallsV Tryz.prog 30 #[Value.pointer r, Value.int IntKind.i64 most] w fun (v : Value) (w' : World) => ∃ (x : Int), v = Value.int IntKind.i64 x ∧ ∃ (I : Option Addr → Nat → Nat → Int → World → Prop) (μ :
 Option Addr → Nat → Nat → Int → World → Nat), I none 0 0 x w' ∧ ∀ (x : Option Addr) (x_1 x_2 : Nat) (x_3 : Int) (w : World), I x x_1 x_2 x_3 w → bif decide ((0 : Int) < x_3) then ∃ (a
 : Addr), r = some a ∧ ∃ (x_4 : Bool), World.cell? w (Addr.add a 2) = some (Value.bool x_4) ∧ bif !x_4 then ∃ (fid : Nat) (first captured : Array Value), one = Value.func (Fn.func fid)
 first captured ∧ bodied Tryz.prog fid = true ∧ CallsV Tryz.prog fid (List.toArray (Array.toList first ++ ([] ++ Array.toList captured))) w fun (r : Value) (w' : World) => ∃ (x_5 : ByteArray) (x_6
 : Bool), r = Value.agg #[Value.string x_5, Value.bool x_6] ∧ ∀ (g : Nat) (w'_1 : World), Fresh w' g w'_1 [Value.string x_5, Value.bool x_6] 61 → ∃ (x_7 : Option Addr) (x_8 x_9 : Nat) (w' : World),
 RunsTo Tryz.prog (Builtin.append_ (Array.mk [26, 26]) 26 #[Value.slice x x_1 x_2, Value.slice (some (Addr.mk g 0 none)) 1 1]) w'_1 (Value.slice x_7 x_8 x_9) w' ∧ I x_7 x_8 x_9
 (IntKind.wrap IntKind.i64 (x_3 - (1 : Int))) w' ∧ μ x_7 x_8 x_9 (IntKind.wrap IntKind.i64 (x_3 - (1 : Int))) w' < μ x x_1 x_2 x_3 w else K (Value.slice x x_1 x_2) w else K (Value.slice x x_1 x_2) w
theorem code_some_api_Acc.calls (ok : Okay Tryz.prog) {r : Option Addr} {most : Int} {one : Value} {w : World} {K : Value → World → Prop} (h : code_some_api_Acc.W r most one w K) : CallsV Tryz.prog 40 #[.pointer r, .int .i64 most, one] w K :=
  fnW_calls ok Tryz.func40 (an := (.named (.named (.seq .auto (.seq .auto (.seq (.seq .auto (.block (.loop [(7, .one .slc), (8, .one (.int .i64))] .auto))) .auto)))))) (args := [.pointer r, .int .i64 most, one]) (Eq.mp (by kernel_rfl) h)
noncomputable def code_some_api_Instr.W : Option Addr → Int → Value → World → (Value → World → Prop) → Prop := fun (r : Option Addr) (most : Int) (one : Value) (w : World) (K : Value → World → Prop) =>
 CallsV Tryz.prog 30 #[Value.pointer r, Value.int IntKind.i64 most] w fun (v : Value) (w' : World) => ∃ (x : Int), v = Value.int IntKind.i64 x ∧ ∃ (I : Option Addr → Nat → Nat → Int → World → Prop) (μ :
 Option Addr → Nat → Nat → Int → World → Nat), I none 0 0 x w' ∧ ∀ (x : Option Addr) (x_1 x_2 : Nat) (x_3 : Int) (w : World), I x x_1 x_2 x_3 w → bif decide ((0 : Int) < x_3) then ∃ (a
 : Addr), r = some a ∧ ∃ (x_4 : Bool), World.cell? w (Addr.add a 2) = some (Value.bool x_4) ∧ bif !x_4 then ∃ (fid : Nat) (first captured : Array Value), one = Value.func (Fn.func fid)
 first captured ∧ bodied Tryz.prog fid = true ∧ CallsV Tryz.prog fid (List.toArray (Array.toList first ++ ([] ++ Array.toList captured))) w fun (r : Value) (w' : World) => ∃ (x_5 x_6 x_7 x_8 x_9 :
 Int), r = Value.agg #[Value.int IntKind.u8 x_5, Value.int IntKind.i64 x_6, Value.int IntKind.i64 x_7, Value.int IntKind.i64 x_8, Value.int IntKind.i64 x_9] ∧ ∀ (g : Nat) (w'_1 : World), Fresh w' g w'_1
 [Value.int IntKind.u8 x_5, Value.int IntKind.i64 x_6, Value.int IntKind.i64 x_7, Value.int IntKind.i64 x_8, Value.int IntKind.i64 x_9] 46 → ∃ (x_10 : Option Addr) (x_11 x_12 : Nat) (w' : World), RunsTo
 Tryz.prog (Builtin.append_ (Array.mk [27, 27]) 27 #[Value.slice x x_1 x_2, Value.slice (some (Addr.mk g 0 none)) 1 1]) w'_1 (Value.slice x_10 x_11 x_12) w' ∧ I x_10 x_11 x_12
 (IntKind.wrap IntKind.i64 (x_3 - (1 : Int))) w' ∧ μ x_10 x_11 x_12 (IntKind.wrap IntKind.i64 (x_3 - (1 : Int))) w' < μ x x_1 x_2 x_3 w else K (Value.slice x x_1 x_2) w else K (Value.slice x x_1 x_2) w
theorem code_some_api_Instr.calls (ok : Okay Tryz.prog) {r : Option Addr} {most : Int} {one : Value} {w : World} {K : Value → World → Prop} (h : code_some_api_Instr.W r most one w K) : CallsV Tryz.prog 42 #[.pointer r, .int .i64 most, one] w K :=
  fnW_calls ok Tryz.func42 (an := (.named (.named (.seq .auto (.seq .auto (.seq (.seq .auto (.block (.loop [(7, .one .slc), (8, .one (.int .i64))] .auto))) .auto)))))) (args := [.pointer r, .int .i64 most, one]) (Eq.mp (by kernel_rfl) h)
noncomputable def code_some_bool.W : Option Addr → Int → Value → World → (Value → World → Prop) → Prop := fun (r : Option Addr) (most : Int) (one : Value) (w : World) (K : Value → World → Prop) =>
 CallsV Tryz.prog 30 #[Value.pointer r, Value.int IntKind.i64 most] w fun (v : Value) (w' : World) => ∃ (x : Int), v = Value.int IntKind.i64 x ∧ ∃ (I : Option Addr → Nat → Nat → Int → World → Prop) (μ :
 Option Addr → Nat → Nat → Int → World → Nat), I none 0 0 x w' ∧ ∀ (x : Option Addr) (x_1 x_2 : Nat) (x_3 : Int) (w : World), I x x_1 x_2 x_3 w → bif decide ((0 : Int) < x_3) then ∃ (a
 : Addr), r = some a ∧ ∃ (x_4 : Bool), World.cell? w (Addr.add a 2) = some (Value.bool x_4) ∧ bif !x_4 then ∃ (fid : Nat) (first captured : Array Value), one = Value.func (Fn.func fid)
 first captured ∧ bodied Tryz.prog fid = true ∧ CallsV Tryz.prog fid (List.toArray (Array.toList first ++ ([] ++ Array.toList captured))) w fun (r : Value) (w' : World) => ∃ (x_5 : Bool), r =
 Value.bool x_5 ∧ ∀ (g : Nat) (w'_1 : World), Fresh w' g w'_1 [Value.bool x_5] 4 → ∃ (x_6 : Option Addr) (x_7 x_8 : Nat) (w' : World), RunsTo Tryz.prog (Builtin.append_ (Array.mk [57, 57]) 57
 #[Value.slice x x_1 x_2, Value.slice (some (Addr.mk g 0 none)) 1 1]) w'_1 (Value.slice x_6 x_7 x_8) w' ∧ I x_6 x_7 x_8 (IntKind.wrap IntKind.i64 (x_3 - (1 : Int))) w' ∧ μ x_6 x_7 x_8
 (IntKind.wrap IntKind.i64 (x_3 - (1 : Int))) w' < μ x x_1 x_2 x_3 w else K (Value.slice x x_1 x_2) w else K (Value.slice x x_1 x_2) w
theorem code_some_bool.calls (ok : Okay Tryz.prog) {r : Option Addr} {most : Int} {one : Value} {w : World} {K : Value → World → Prop} (h : code_some_bool.W r most one w K) : CallsV Tryz.prog 73 #[.pointer r, .int .i64 most, one] w K :=
  fnW_calls ok Tryz.func73 (an := (.named (.named (.seq .auto (.seq .auto (.seq (.seq .auto (.block (.loop [(7, .one .slc), (8, .one (.int .i64))] .auto))) .auto)))))) (args := [.pointer r, .int .i64 most, one]) (Eq.mp (by kernel_rfl) h)
end Go.Proofs.YtaifphjenebgoaaGreatDoor
set_option linter.unusedVariables false
set_option maxRecDepth 100000
namespace Go.Proofs.YtaifphjenebgoaaGreatDoor
open Go Go.Sx
noncomputable def code_reader_number.W : Option Addr → Int → World → (Value → World → Prop) → Prop := fun (r : Option Addr) (most : Int) (w : World) (K : Value → World → Prop) => ∃ (a : Addr), r =
 some a ∧ ∃ (x : Bool), World.cell? w (Addr.add a 2) = some (Value.bool x) ∧ bif x then K (Value.int IntKind.i64 (0 : Int)) w else ∃ (a : Addr), r = some a ∧ ∃ (S : World → Prop), S
 (World.drew w) ∧ ∃ (x : Option Addr) (x_1 x_2 : Nat), (∀ (u : World), S u → World.cell? u (Addr.add a 0) = some (Value.slice x x_1 x_2)) ∧ ∃ (a : Addr), r = some a ∧ ∃ (x_3 : Int), (∀ (u
 : World), S u → World.cell? u (Addr.add a 1) = some (Value.int IntKind.i64 x_3)) ∧ CallsV Tryz.prog 69 #[Value.slice x x_1 x_2, Value.int IntKind.i64 x_3] (World.drew w) fun (v : Value) (w' :
 World) => ∃ (x x_4 x_5 : Int), v = Value.tuple #[Value.int IntKind.u64 x, Value.int IntKind.i64 x_4, Value.int IntKind.i64 x_5] ∧ bif !decide (x_5 = (0 : Int)) then ∃ (a : Addr), r =
 some a ∧ stOK (Addr.add a 2) 0 [Value.bool true] w' ∧ ∀ (w'_1 : World), w'_1 = setAll (Addr.add a 2) 0 [Value.bool true] w' → K (Value.int IntKind.i64 (0 : Int)) w'_1 else bif
 decide (IntKind.wrap IntKind.u64 most < x) then ∃ (a : Addr), r = some a ∧ stOK (Addr.add a 2) 0 [Value.bool true] w' ∧ ∀ (w'_1 : World), w'_1 = setAll (Addr.add a 2) 0
 [Value.bool true] w' → K (Value.int IntKind.i64 (0 : Int)) w'_1 else ∃ (a : Addr), r = some a ∧ stOK (Addr.add a 1) 0 [Value.int IntKind.i64 x_4] w' ∧ ∀ (w'_1 : World), w'_1 = setAll
 (Addr.add a 1) 0 [Value.int IntKind.i64 x_4] w' → K (Value.int IntKind.i64 (IntKind.wrap IntKind.i64 x)) w'_1
theorem code_reader_number.calls (ok : Okay Tryz.prog) {r : Option Addr} {most : Int} {w : World} {K : Value → World → Prop} (h : code_reader_number.W r most w K) : CallsV Tryz.prog 30 #[.pointer r, .int .i64 most] w K :=
  fnW_calls ok Tryz.func30 (an := (.named .auto)) (args := [.pointer r, .int .i64 most]) (Eq.mp (by kernel_rfl) h)
noncomputable def code_reader_flag.W : Option Addr → World → (Value → World → Prop) → Prop := fun (r : Option Addr) (w : World) (K : Value → World → Prop) => CallsV Tryz.prog 30 #[Value.pointer r,
 Value.int IntKind.i64 (1 : Int)] w fun (v : Value) (w' : World) => ∃ (x : Int), v = Value.int IntKind.i64 x ∧ K (Value.bool (decide (x = (1 : Int)))) w'
theorem code_reader_flag.calls (ok : Okay Tryz.prog) {r : Option Addr} {w : World} {K : Value → World → Prop} (h : code_reader_flag.W r w K) : CallsV Tryz.prog 72 #[.pointer r] w K :=
  fnW_calls ok Tryz.func72 (an := (.named .auto)) (args := [.pointer r]) (Eq.mp (by kernel_rfl) h)
noncomputable def code_reader_blob.W : Option Addr → Int → World → (Value → World → Prop) → Prop := fun (r : Option Addr) (most : Int) (w : World) (K : Value → World → Prop) => ∃ (a : Addr), r =
 some a ∧ ∃ (x : Bool), World.cell? w (Addr.add a 2) = some (Value.bool x) ∧ bif x then K (Value.slice none 0 0) w else ∃ (a : Addr), r = some a ∧ ∃ (S : World → Prop), S
 (World.drew w) ∧ ∃ (x : Option Addr) (x_1 x_2 : Nat), (∀ (u : World), S u → World.cell? u (Addr.add a 0) = some (Value.slice x x_1 x_2)) ∧ ∃ (a : Addr), r = some a ∧ ∃ (x_3 : Int), (∀ (u
 : World), S u → World.cell? u (Addr.add a 1) = some (Value.int IntKind.i64 x_3)) ∧ CallsV Tryz.prog 70 #[Value.slice x x_1 x_2, Value.int IntKind.i64 x_3, Value.int IntKind.i64 most] (World.drew
 w) fun (v : Value) (w' : World) => ∃ (x : Option Addr) (x_4 x_5 : Nat) (x_6 x_7 : Int), v = Value.tuple #[Value.slice x x_4 x_5, Value.int IntKind.i64 x_6, Value.int IntKind.i64 x_7] ∧ bif
 !decide (x_7 = (0 : Int)) then ∃ (a : Addr), r = some a ∧ stOK (Addr.add a 2) 0 [Value.bool true] w' ∧ ∀ (w'_1 : World), w'_1 = setAll (Addr.add a 2) 0 [Value.bool true] w' →
 K (Value.slice none 0 0) w'_1 else ∃ (a : Addr), r = some a ∧ stOK (Addr.add a 1) 0 [Value.int IntKind.i64 x_6] w' ∧ ∀ (w'_1 : World), w'_1 = setAll (Addr.add a 1) 0 [Value.int
 IntKind.i64 x_6] w' → K (Value.slice x x_4 x_5) w'_1
theorem code_reader_blob.calls (ok : Okay Tryz.prog) {r : Option Addr} {most : Int} {w : World} {K : Value → World → Prop} (h : code_reader_blob.W r most w K) : CallsV Tryz.prog 33 #[.pointer r, .int .i64 most] w K :=
  fnW_calls ok Tryz.func33 (an := (.named .auto)) (args := [.pointer r, .int .i64 most]) (Eq.mp (by kernel_rfl) h)
noncomputable def code_Read_1.W : Addr → World → (Value → World → Prop) → Prop := fun (a0 : Addr) (w : World) (K : Value → World → Prop) => ∃ (x : Option Addr), World.cell? w a0 = some
 (Value.pointer x) ∧ CallsV Tryz.prog 33 #[Value.pointer x, Value.int IntKind.i64 (200 : Int)] w fun (v : Value) (w' : World) => ∃ (x : Option Addr) (x_1 x_2 : Nat), v = Value.slice x x_1 x_2 ∧ ∃ (x_3 :
 ByteArray) (w'_1 : World), RunsTo Tryz.prog (convert 32 9 (Value.slice x x_1 x_2)) w' (Value.string x_3) w'_1 ∧ K (Value.string x_3) w'_1
theorem code_Read_1.calls (ok : Okay Tryz.prog) {a0 : Addr} {w : World} {K : Value → World → Prop} (h : code_Read_1.W a0 w K) : CallsV Tryz.prog 32 #[.pointer (some a0)] w K :=
  fnW_calls ok Tryz.func32 (an := (.named .auto)) (args := [.pointer (some a0)]) (Eq.mp (by kernel_rfl) h)
noncomputable def code_reader_constant.W : Option Addr → World → (Value → World → Prop) → Prop := fun (r : Option Addr) (w : World) (K : Value → World → Prop) => ∀ (g : Nat) (w' : World), Fresh w g w'
 [Value.int IntKind.u8 (0 : Int), Value.int IntKind.i64 (0 : Int), Value.string (ByteArray.mk #[])] 54 → CallsV Tryz.prog 33 #[Value.pointer r, Value.int IntKind.i64 (1048576 : Int)] w' fun (v : Value)
 (w' : World) => ∃ (x : Option Addr) (x_1 x_2 : Nat), v = Value.slice x x_1 x_2 ∧ CallsV Tryz.prog 71 #[Value.slice x x_1 x_2] w' fun (v : Value) (w' : World) => ∃ (x : Option Addr) (x_3 x_4 : Nat) (x_5
 : Int), v = Value.tuple #[Value.slice x x_3 x_4, Value.int IntKind.i64 x_5] ∧ bif !decide (x_5 = (0 : Int)) then ∃ (a : Addr), r = some a ∧ stOK (Addr.add a 2) 0 [Value.bool true]
 w' ∧ ∀ (w'_1 : World), w'_1 = setAll (Addr.add a 2) 0 [Value.bool true] w' → stOK (Addr.mk g 0 none) 0 [Value.int IntKind.u8 (0 : Int), Value.int IntKind.i64 (0 : Int), Value.string
 (ByteArray.mk #[])] w'_1 ∧ ∀ (w' : World), w' = setAll (Addr.mk g 0 none) 0 [Value.int IntKind.u8 (0 : Int), Value.int IntKind.i64 (0 : Int), Value.string (ByteArray.mk #[])] w'_1 → ∃ (x : Int),
 World.cell? w' (Addr.add (Addr.mk g 0 none) 0) = some (Value.int IntKind.u8 x) ∧ ∃ (x_6 : Int), World.cell? w' (Addr.add (Addr.mk g 0 none) 1) = some (Value.int IntKind.i64
 x_6) ∧ ∃ (x_7 : ByteArray), World.cell? w' (Addr.add (Addr.mk g 0 none) 2) = some (Value.string x_7) ∧ K (Value.agg #[Value.int IntKind.u8 x, Value.int IntKind.i64 x_6, Value.string x_7])
 w' else bif !decide ((↑x_3 : Int) = (1 : Int)) then ∃ (a : Addr), r = some a ∧ stOK (Addr.add a 2) 0 [Value.bool true] w' ∧ ∀ (w'_1 : World), w'_1 = setAll (Addr.add a 2) 0
 [Value.bool true] w' → stOK (Addr.mk g 0 none) 0 [Value.int IntKind.u8 (0 : Int), Value.int IntKind.i64 (0 : Int), Value.string (ByteArray.mk #[])] w'_1 ∧ ∀ (w' : World), w' = setAll
 (Addr.mk g 0 none) 0 [Value.int IntKind.u8 (0 : Int), Value.int IntKind.i64 (0 : Int), Value.string (ByteArray.mk #[])] w'_1 → ∃ (x : Int), World.cell? w' (Addr.add (Addr.mk g 0 none) 0)
 = some (Value.int IntKind.u8 x) ∧ ∃ (x_6 : Int), World.cell? w' (Addr.add (Addr.mk g 0 none) 1) = some (Value.int IntKind.i64 x_6) ∧ ∃ (x_7 : ByteArray), World.cell? w' (Addr.add
 (Addr.mk g 0 none) 2) = some (Value.string x_7) ∧ K (Value.agg #[Value.int IntKind.u8 x, Value.int IntKind.i64 x_6, Value.string x_7]) w' else ∃ (ad : Addr), x = some ad ∧ ((0 :
 Int) ≤ (0 : Int) ∧ (0 : Int) < (↑x_3 : Int)) ∧ ∃ (x : Int), World.cell? w' (Addr.add (Addr.add ad (Int.toNat (0 : Int) * 3)) 0) = some (Value.int IntKind.u8 x) ∧ ∃ (x_6 : Int), World.cell? w'
 (Addr.add (Addr.add ad (Int.toNat (0 : Int) * 3)) 1) = some (Value.int IntKind.i64 x_6) ∧ ∃ (x_7 : ByteArray), World.cell? w' (Addr.add (Addr.add ad (Int.toNat (0 : Int) * 3)) 2) = some
 (Value.string x_7) ∧ stOK (Addr.mk g 0 none) 0 [Value.int IntKind.u8 x, Value.int IntKind.i64 x_6, Value.string x_7] w' ∧ ∀ (w'_1 : World), w'_1 = setAll (Addr.mk g 0 none) 0 [Value.int
 IntKind.u8 x, Value.int IntKind.i64 x_6, Value.string x_7] w' → ∃ (x : Int), World.cell? w'_1 (Addr.add (Addr.mk g 0 none) 0) = some (Value.int IntKind.u8 x) ∧ ∃ (x_8 : Int), World.cell?
 w'_1 (Addr.add (Addr.mk g 0 none) 1) = some (Value.int IntKind.i64 x_8) ∧ ∃ (x_9 : ByteArray), World.cell? w'_1 (Addr.add (Addr.mk g 0 none) 2) = some (Value.string x_9) ∧ K
 (Value.agg #[Value.int IntKind.u8 x, Value.int IntKind.i64 x_8, Value.string x_9]) w'_1
theorem code_reader_constant.calls (ok : Okay Tryz.prog) {r : Option Addr} {w : World} {K : Value → World → Prop} (h : code_reader_constant.W r w K) : CallsV Tryz.prog 35 #[.pointer r] w K :=
  fnW_calls ok Tryz.func35 (an := (.named .auto)) (args := [.pointer r]) (Eq.mp (by kernel_rfl) h)
noncomputable def code_reader_cursor.W : Option Addr → World → (Value → World → Prop) → Prop := fun (r : Option Addr) (w : World) (K : Value → World → Prop) => ∀ (g : Nat) (w' : World), Fresh w g w'
 [Value.string (ByteArray.mk #[]), Value.bool false, Value.bool false] 56 → CallsV Tryz.prog 33 #[Value.pointer r, Value.int IntKind.i64 (200 : Int)] w' fun (v : Value) (w' : World) => ∃ (x :
 Option Addr) (x_1 x_2 : Nat), v = Value.slice x x_1 x_2 ∧ ∃ (x_3 : ByteArray) (w'_1 : World), RunsTo Tryz.prog (convert 32 9 (Value.slice x x_1 x_2)) w' (Value.string x_3) w'_1 ∧ ∀ (g_1 : Nat) (w' :
 World), Fresh w'_1 g_1 w' [Value.string (ByteArray.mk #[]), Value.bool false, Value.bool false] 56 → stOK (Addr.mk g_1 0 none) 0 [Value.string x_3, Value.bool false, Value.bool
 false] w' ∧ ∀ (w'_2 : World), w'_2 = setAll (Addr.mk g_1 0 none) 0 [Value.string x_3, Value.bool false, Value.bool false] w' → CallsV Tryz.prog 72 #[Value.pointer r] w'_2 fun (v :
 Value) (w' : World) => ∃ (x : Bool), v = Value.bool x ∧ stOK (Addr.add (Addr.mk g_1 0 none) 1) 0 [Value.bool x] w' ∧ ∀ (w'_3 : World), w'_3 = setAll (Addr.add (Addr.mk g_1 0 none) 1) 0
 [Value.bool x] w' → CallsV Tryz.prog 72 #[Value.pointer r] w'_3 fun (v : Value) (w' : World) => ∃ (x : Bool), v = Value.bool x ∧ stOK (Addr.add (Addr.mk g_1 0 none) 2) 0 [Value.bool x] w' ∧ ∀
 (w'_4 : World), w'_4 = setAll (Addr.add (Addr.mk g_1 0 none) 2) 0 [Value.bool x] w' → ∃ (x : ByteArray), World.cell? w'_4 (Addr.add (Addr.mk g_1 0 none) 0) = some (Value.string x)
 ∧ ∃ (x_4 : Bool), World.cell? w'_4 (Addr.add (Addr.mk g_1 0 none) 1) = some (Value.bool x_4) ∧ ∃ (x_5 : Bool), World.cell? w'_4 (Addr.add (Addr.mk g_1 0 none) 2) = some
 (Value.bool x_5) ∧ stOK (Addr.mk g 0 none) 0 [Value.string x, Value.bool x_4, Value.bool x_5] w'_4 ∧ ∀ (w' : World), w' = setAll (Addr.mk g 0 none) 0 [Value.string x, Value.bool x_4,
 Value.bool x_5] w'_4 → ∃ (x : ByteArray), World.cell? w' (Addr.add (Addr.mk g 0 none) 0) = some (Value.string x) ∧ ∃ (x_6 : Bool), World.cell? w' (Addr.add (Addr.mk g 0 none) 1) =
 some (Value.bool x_6) ∧ ∃ (x_7 : Bool), World.cell? w' (Addr.add (Addr.mk g 0 none) 2) = some (Value.bool x_7) ∧ K (Value.agg #[Value.string x, Value.bool x_6, Value.bool x_7]) w'
theorem code_reader_cursor.calls (ok : Okay Tryz.prog) {r : Option Addr} {w : World} {K : Value → World → Prop} (h : code_reader_cursor.W r w K) : CallsV Tryz.prog 37 #[.pointer r] w K :=
  fnW_calls ok Tryz.func37 (an := (.named .auto)) (args := [.pointer r]) (Eq.mp (by kernel_rfl) h)
noncomputable def code_reader_sorter.W : Option Addr → World → (Value → World → Prop) → Prop := fun (r : Option Addr) (w : World) (K : Value → World → Prop) => ∀ (g : Nat) (w' : World), Fresh w g w'
 [Value.slice none 0 0, Value.int IntKind.i64 (0 : Int), Value.bool false] 59 → CallsV Tryz.prog 73 #[Value.pointer r, Value.int IntKind.i64 (30 : Int), Value.func (Fn.func 72)
 #[Value.pointer r] #[]] w' fun (v : Value) (w' : World) => ∃ (x : Option Addr) (x_1 x_2 : Nat), v = Value.slice x x_1 x_2 ∧ ∀ (g_1 : Nat) (w'_1 : World), Fresh w' g_1 w'_1 [Value.slice none 0 0,
 Value.int IntKind.i64 (0 : Int), Value.bool false] 59 → stOK (Addr.mk g_1 0 none) 0 [Value.slice x x_1 x_2, Value.int IntKind.i64 (0 : Int), Value.bool false] w'_1 ∧ ∀ (w' : World), w'
 = setAll (Addr.mk g_1 0 none) 0 [Value.slice x x_1 x_2, Value.int IntKind.i64 (0 : Int), Value.bool false] w'_1 → CallsV Tryz.prog 30 #[Value.pointer r, Value.int IntKind.i64 (60 : Int)] w'
 fun (v : Value) (w' : World) => ∃ (x : Int), v = Value.int IntKind.i64 x ∧ stOK (Addr.add (Addr.mk g_1 0 none) 1) 0 [Value.int IntKind.i64 x] w' ∧ ∀ (w'_2 : World), w'_2 = setAll (Addr.add
 (Addr.mk g_1 0 none) 1) 0 [Value.int IntKind.i64 x] w' → CallsV Tryz.prog 72 #[Value.pointer r] w'_2 fun (v : Value) (w' : World) => ∃ (x : Bool), v = Value.bool x ∧ stOK (Addr.add (Addr.mk g_1
 0 none) 2) 0 [Value.bool x] w' ∧ ∀ (w'_3 : World), w'_3 = setAll (Addr.add (Addr.mk g_1 0 none) 2) 0 [Value.bool x] w' → ∃ (x : Option Addr) (x_3 x_4 : Nat), World.cell? w'_3 (Addr.add
 (Addr.mk g_1 0 none) 0) = some (Value.slice x x_3 x_4) ∧ ∃ (x_5 : Int), World.cell? w'_3 (Addr.add (Addr.mk g_1 0 none) 1) = some (Value.int IntKind.i64 x_5) ∧ ∃ (x_6 :
 Bool), World.cell? w'_3 (Addr.add (Addr.mk g_1 0 none) 2) = some (Value.bool x_6) ∧ stOK (Addr.mk g 0 none) 0 [Value.slice x x_3 x_4, Value.int IntKind.i64 x_5, Value.bool x_6]
 w'_3 ∧ ∀ (w' : World), w' = setAll (Addr.mk g 0 none) 0 [Value.slice x x_3 x_4, Value.int IntKind.i64 x_5, Value.bool x_6] w'_3 → ∃ (x : Option Addr) (x_7 x_8 : Nat), World.cell? w' (Addr.add
 (Addr.mk g 0 none) 0) = some (Value.slice x x_7 x_8) ∧ ∃ (x_9 : Int), World.cell? w' (Addr.add (Addr.mk g 0 none) 1) = some (Value.int IntKind.i64 x_9) ∧ ∃ (x_10 : Bool),
 World.cell? w' (Addr.add (Addr.mk g 0 none) 2) = some (Value.bool x_10) ∧ K (Value.agg #[Value.slice x x_7 x_8, Value.int IntKind.i64 x_9, Value.bool x_10]) w'
theorem code_reader_sorter.calls (ok : Okay Tryz.prog) {r : Option Addr} {w : World} {K : Value → World → Prop} (h : code_reader_sorter.W r w K) : CallsV Tryz.prog 39 #[.pointer r] w K :=
  fnW_calls ok Tryz.func39 (an := (.named .auto)) (args := [.pointer r]) (Eq.mp (by kernel_rfl) h)
noncomputable def code_reader_total.W : Option Addr → World → (Value → World → Prop) → Prop := fun (r : Option Addr) (w : World) (K : Value → World → Prop) => ∀ (g : Nat) (w' : World), Fresh w g w'
 [Value.string (ByteArray.mk #[]), Value.bool false] 61 → CallsV Tryz.prog 33 #[Value.pointer r, Value.int IntKind.i64 (200 : Int)] w' fun (v : Value) (w' : World) => ∃ (x : Option Addr) (x_1 x_2 :
 Nat), v = Value.slice x x_1 x_2 ∧ ∃ (x_3 : ByteArray) (w'_1 : World), RunsTo Tryz.prog (convert 32 9 (Value.slice x x_1 x_2)) w' (Value.string x_3) w'_1 ∧ ∀ (g_1 : Nat) (w' : World), Fresh w'_1 g_1 w'
 [Value.string (ByteArray.mk #[]), Value.bool false] 61 → stOK (Addr.mk g_1 0 none) 0 [Value.string x_3, Value.bool false] w' ∧ ∀ (w'_2 : World), w'_2 = setAll (Addr.mk g_1 0
 none) 0 [Value.string x_3, Value.bool false] w' → CallsV Tryz.prog 72 #[Value.pointer r] w'_2 fun (v : Value) (w' : World) => ∃ (x : Bool), v = Value.bool x ∧ stOK (Addr.add (Addr.mk g_1 0
 none) 1) 0 [Value.bool x] w' ∧ ∀ (w'_3 : World), w'_3 = setAll (Addr.add (Addr.mk g_1 0 none) 1) 0 [Value.bool x] w' → ∃ (x : ByteArray), World.cell? w'_3 (Addr.add (Addr.mk g_1 0
 none) 0) = some (Value.string x) ∧ ∃ (x_4 : Bool), World.cell? w'_3 (Addr.add (Addr.mk g_1 0 none) 1) = some (Value.bool x_4) ∧ stOK (Addr.mk g 0 none) 0
 [Value.string x, Value.bool x_4] w'_3 ∧ ∀ (w' : World), w' = setAll (Addr.mk g 0 none) 0 [Value.string x, Value.bool x_4] w'_3 → ∃ (x : ByteArray), World.cell? w' (Addr.add (Addr.mk g 0
 none) 0) = some (Value.string x) ∧ ∃ (x_5 : Bool), World.cell? w' (Addr.add (Addr.mk g 0 none) 1) = some (Value.bool x_5) ∧ K (Value.agg #[Value.string x, Value.bool x_5])
 w'
theorem code_reader_total.calls (ok : Okay Tryz.prog) {r : Option Addr} {w : World} {K : Value → World → Prop} (h : code_reader_total.W r w K) : CallsV Tryz.prog 41 #[.pointer r] w K :=
  fnW_calls ok Tryz.func41 (an := (.named .auto)) (args := [.pointer r]) (Eq.mp (by kernel_rfl) h)
noncomputable def code_reader_instr.W : Option Addr → World → (Value → World → Prop) → Prop := fun (r : Option Addr) (w : World) (K : Value → World → Prop) => ∀ (g : Nat) (w' : World), Fresh w g w'
 [Value.int IntKind.u8 (0 : Int), Value.int IntKind.i64 (0 : Int), Value.int IntKind.i64 (0 : Int), Value.int IntKind.i64 (0 : Int), Value.int IntKind.i64 (0 : Int)] 46 → ∀ (g_1 : Nat) (w'_1 : World),
 Fresh w' g_1 w'_1 [Value.int IntKind.u8 (0 : Int), Value.int IntKind.i64 (0 : Int), Value.int IntKind.i64 (0 : Int), Value.int IntKind.i64 (0 : Int), Value.int IntKind.i64 (0 : Int)] 46 → CallsV
 Tryz.prog 30 #[Value.pointer r, Value.int IntKind.i64 (255 : Int)] w'_1 fun (v : Value) (w' : World) => ∃ (x : Int), v = Value.int IntKind.i64 x ∧ stOK (Addr.add (Addr.mk g_1 0 none) 0) 0
 [Value.int IntKind.u8 (IntKind.wrap IntKind.u8 x)] w' ∧ ∀ (w'_2 : World), w'_2 = setAll (Addr.add (Addr.mk g_1 0 none) 0) 0 [Value.int IntKind.u8 (IntKind.wrap IntKind.u8 x)] w' → ∃ (I : Int →
 World → Prop) (μ : Int → World → Nat), I (0 : Int) w'_2 ∧ ∀ (x : Int) (w : World), I x w → bif decide (x < (4 : Int)) then ((0 : Int) ≤ x ∧ x < (↑4 : Int)) ∧ bif decide (x = (↑0 :
 Int)) then CallsV Tryz.prog 30 #[Value.pointer r, Value.int IntKind.i64 (1099511627776 : Int)] w fun (v : Value) (w' : World) => ∃ (x_1 : Int), v = Value.int IntKind.i64 x_1 ∧ ∃ (a : Addr), some
 (Addr.add (Addr.mk g_1 0 none) 1) = some a ∧ stOK a 0 [Value.int IntKind.i64 x_1] w' ∧ ∀ (w'_3 : World), w'_3 = setAll a 0 [Value.int IntKind.i64 x_1] w' → I (IntKind.wrap IntKind.i64 (x
 + (1 : Int))) w'_3 ∧ μ (IntKind.wrap IntKind.i64 (x + (1 : Int))) w'_3 < μ x w else bif decide (x = (↑1 : Int)) then CallsV Tryz.prog 30 #[Value.pointer r, Value.int IntKind.i64
 (1099511627776 : Int)] w fun (v : Value) (w' : World) => ∃ (x_1 : Int), v = Value.int IntKind.i64 x_1 ∧ ∃ (a : Addr), some (Addr.add (Addr.mk g_1 0 none) 2) = some a ∧ stOK a 0
 [Value.int IntKind.i64 x_1] w' ∧ ∀ (w'_3 : World), w'_3 = setAll a 0 [Value.int IntKind.i64 x_1] w' → I (IntKind.wrap IntKind.i64 (x + (1 : Int))) w'_3 ∧ μ (IntKind.wrap IntKind.i64 (x + (1 : Int)))
 w'_3 < μ x w else bif decide (x = (↑2 : Int)) then CallsV Tryz.prog 30 #[Value.pointer r, Value.int IntKind.i64 (1099511627776 : Int)] w fun (v : Value) (w' : World) => ∃ (x_1 : Int), v =
 Value.int IntKind.i64 x_1 ∧ ∃ (a : Addr), some (Addr.add (Addr.mk g_1 0 none) 3) = some a ∧ stOK a 0 [Value.int IntKind.i64 x_1] w' ∧ ∀ (w'_3 : World), w'_3 = setAll a 0 [Value.int
 IntKind.i64 x_1] w' → I (IntKind.wrap IntKind.i64 (x + (1 : Int))) w'_3 ∧ μ (IntKind.wrap IntKind.i64 (x + (1 : Int))) w'_3 < μ x w else bif decide (x = (↑3 : Int)) then CallsV Tryz.prog 30
 #[Value.pointer r, Value.int IntKind.i64 (1099511627776 : Int)] w fun (v : Value) (w' : World) => ∃ (x_1 : Int), v = Value.int IntKind.i64 x_1 ∧ ∃ (a : Addr), some (Addr.add (Addr.mk g_1 0
 none) 4) = some a ∧ stOK a 0 [Value.int IntKind.i64 x_1] w' ∧ ∀ (w'_3 : World), w'_3 = setAll a 0 [Value.int IntKind.i64 x_1] w' → I (IntKind.wrap IntKind.i64 (x + (1 : Int))) w'_3 ∧ μ
 (IntKind.wrap IntKind.i64 (x + (1 : Int))) w'_3 < μ x w else False else ∃ (x : Int), World.cell? w (Addr.add (Addr.mk g_1 0 none) 0) = some (Value.int IntKind.u8 x) ∧ ∃ (x_1 : Int),
 World.cell? w (Addr.add (Addr.mk g_1 0 none) 1) = some (Value.int IntKind.i64 x_1) ∧ ∃ (x_2 : Int), World.cell? w (Addr.add (Addr.mk g_1 0 none) 2) = some (Value.int
 IntKind.i64 x_2) ∧ ∃ (x_3 : Int), World.cell? w (Addr.add (Addr.mk g_1 0 none) 3) = some (Value.int IntKind.i64 x_3) ∧ ∃ (x_4 : Int), World.cell? w (Addr.add (Addr.mk g_1 0 none)
 4) = some (Value.int IntKind.i64 x_4) ∧ stOK (Addr.mk g 0 none) 0 [Value.int IntKind.u8 x, Value.int IntKind.i64 x_1, Value.int IntKind.i64 x_2, Value.int IntKind.i64 x_3, Value.int
 IntKind.i64 x_4] w ∧ ∀ (w' : World), w' = setAll (Addr.mk g 0 none) 0 [Value.int IntKind.u8 x, Value.int IntKind.i64 x_1, Value.int IntKind.i64 x_2, Value.int IntKind.i64 x_3, Value.int
 IntKind.i64 x_4] w → ∃ (x : Int), World.cell? w' (Addr.add (Addr.mk g 0 none) 0) = some (Value.int IntKind.u8 x) ∧ ∃ (x_5 : Int), World.cell? w' (Addr.add (Addr.mk g 0 none) 1) =
 some (Value.int IntKind.i64 x_5) ∧ ∃ (x_6 : Int), World.cell? w' (Addr.add (Addr.mk g 0 none) 2) = some (Value.int IntKind.i64 x_6) ∧ ∃ (x_7 : Int), World.cell? w' (Addr.add
 (Addr.mk g 0 none) 3) = some (Value.int IntKind.i64 x_7) ∧ ∃ (x_8 : Int), World.cell? w' (Addr.add (Addr.mk g 0 none) 4) = some (Value.int IntKind.i64 x_8) ∧ K (Value.agg
 #[Value.int IntKind.u8 x, Value.int IntKind.i64 x_5, Value.int IntKind.i64 x_6, Value.int IntKind.i64 x_7, Value.int IntKind.i64 x_8]) w'
theorem code_reader_instr.calls (ok : Okay Tryz.prog) {r : Option Addr} {w : World} {K : Value → World → Prop} (h : code_reader_instr.W r w K) : CallsV Tryz.prog 43 #[.pointer r] w K :=
  fnW_calls ok Tryz.func43 (an := (.named (.seq .auto (.seq .auto (.seq .auto (.seq (.seq .auto (.block (.loop [(15, .one (.int .i64))] .auto))) .auto)))))) (args := [.pointer r]) (Eq.mp (by kernel_rfl) h)
end Go.Proofs.YtaifphjenebgoaaGreatDoor
set_option linter.unusedVariables false
set_option maxRecDepth 100000
namespace Go.Proofs.YtaifphjenebgoaaGreatDoor
open Go Go.Sx
noncomputable def bytes_digit.W : Int → Int → World → (Value → World → Prop) → Prop := fun (n k : Int) (w : World) (K : Value → World → Prop) => (0 : Int) ≤ IntKind.wrap IntKind.i64 ((7 : Int) * k) ∧
 (128 : Int) ≠ (0 : Int) ∧ K (Value.int IntKind.u8 (IntKind.wrap IntKind.u8 (Int.tmod (Int.fdiv n ((2 : Int) ^ Min.min (Int.toNat (IntKind.wrap IntKind.i64 ((7 : Int) * k))) 64)) (128 : Int)))) w
theorem bytes_digit.calls (ok : Okay Tryz.prog) {n : Int} {k : Int} {w : World} {K : Value → World → Prop} (h : bytes_digit.W n k w K) : CallsV Tryz.prog 125 #[.int .u64 n, .int .i64 k] w K :=
  fnW_calls ok Tryz.func125 (an := .auto) (args := [.int .u64 n, .int .i64 k]) (Eq.mp (by kernel_rfl) h)
noncomputable def bytes_Uint.W : Option Addr → Nat → Nat → Int → World → (Value → World → Prop) → Prop := fun (out_A : Option Addr) (out_n out_c : Nat) (n : Int) (w : World) (K : Value → World → Prop)
 => ∃ (I : Int → Int → World → Prop) (μ : Int → Int → World → Nat), I (0 : Int) (0 : Int) w ∧ ∀ (x x_1 : Int) (w : World), I x x_1 w → bif decide (x_1 < (10 : Int)) then CallsV Tryz.prog 125
 #[Value.int IntKind.u64 n, Value.int IntKind.i64 x_1] w fun (v : Value) (w' : World) => ∃ (x_2 : Int), v = Value.int IntKind.u8 x_2 ∧ bif decide ((0 : Int) < x_2) then I x_1 (IntKind.wrap
 IntKind.i64 (x_1 + (1 : Int))) w' ∧ μ x_1 (IntKind.wrap IntKind.i64 (x_1 + (1 : Int))) w' < μ x x_1 w else I x (IntKind.wrap IntKind.i64 (x_1 + (1 : Int))) w' ∧ μ x (IntKind.wrap IntKind.i64 (x_1 + (1
 : Int))) w' < μ x x_1 w else ∃ (I : Option Addr → Nat → Nat → Int → World → Prop) (μ : Option Addr → Nat → Nat → Int → World → Nat), I out_A out_n out_c (0 : Int) w ∧ ∀ (x_2 : Option Addr) (x_3 x_4 :
 Nat) (x_5 : Int) (w : World), I x_2 x_3 x_4 x_5 w → bif decide (x_5 < x) then CallsV Tryz.prog 125 #[Value.int IntKind.u64 n, Value.int IntKind.i64 x_5] w fun (v : Value) (w' : World) => ∃ (x
 : Int), v = Value.int IntKind.u8 x ∧ ∃ (x_6 : Option Addr) (x_7 x_8 : Nat) (w'_1 : World), RunsTo Tryz.prog (Builtin.append_ (Array.mk [32, 32]) 32 #[Value.slice x_2 x_3 x_4, Value.slice (some
 (Addr.mk (Array.size (World.heap w')) 0 none)) 1 1]) (World.alloc w' (Obj.cells #[Value.int IntKind.u8 (IntKind.wrap IntKind.u8 (x + (128 : Int)))] 5)) (Value.slice x_6 x_7 x_8) w'_1 ∧ I x_6 x_7
 x_8 (IntKind.wrap IntKind.i64 (x_5 + (1 : Int))) w'_1 ∧ μ x_6 x_7 x_8 (IntKind.wrap IntKind.i64 (x_5 + (1 : Int))) w'_1 < μ x_2 x_3 x_4 x_5 w else CallsV Tryz.prog 125 #[Value.int IntKind.u64 n,
 Value.int IntKind.i64 x] w fun (v : Value) (w' : World) => ∃ (x : Int), v = Value.int IntKind.u8 x ∧ ∃ (x_6 : Option Addr) (x_7 x_8 : Nat) (w'_1 : World), RunsTo Tryz.prog (Builtin.append_ (Array.mk
 [32, 32]) 32 #[Value.slice x_2 x_3 x_4, Value.slice (some (Addr.mk (Array.size (World.heap w')) 0 none)) 1 1]) (World.alloc w' (Obj.cells #[Value.int IntKind.u8 x] 5)) (Value.slice x_6
 x_7 x_8) w'_1 ∧ K (Value.slice x_6 x_7 x_8) w'_1
theorem bytes_Uint.calls (ok : Okay Tryz.prog) {out_A : Option Addr} {out_n : Nat} {out_c : Nat} {n : Int} {w : World} {K : Value → World → Prop} (h : bytes_Uint.W out_A out_n out_c n w K) : CallsV Tryz.prog 63 #[.slice out_A out_n out_c, .int .u64 n] w K :=
  fnW_calls ok Tryz.func63 (an := (.seq .auto (.seq .auto (.seq (.seq .auto (.block (.loop [(5, .one (.int .i64)), (8, .one (.int .i64))] .auto))) (.seq (.seq .auto (.block (.loop [(0, .one .slc), (18, .one (.int .i64))] .auto))) .auto))))) (args := [.slice out_A out_n out_c, .int .u64 n]) (Eq.mp (by kernel_rfl) h)
noncomputable def bytes_Blob.W : Option Addr → Nat → Nat → Option Addr → Nat → Nat → World → (Value → World → Prop) → Prop := fun (out_A : Option Addr) (out_n out_c : Nat) (b_A : Option Addr) (b_n b_c
 : Nat) (w : World) (K : Value → World → Prop) => CallsV Tryz.prog 63 #[Value.slice out_A out_n out_c, Value.int IntKind.u64 (IntKind.wrap IntKind.u64 (↑b_n : Int))] w fun (v : Value) (w' : World) => ∃
 (x : Option Addr) (x_1 x_2 : Nat), v = Value.slice x x_1 x_2 ∧ ∃ (x_3 : Option Addr) (x_4 x_5 : Nat) (w'_1 : World), RunsTo Tryz.prog (Builtin.append_ (Array.mk [32, 32]) 32 #[Value.slice x x_1 x_2,
 Value.slice b_A b_n b_c]) w' (Value.slice x_3 x_4 x_5) w'_1 ∧ K (Value.slice x_3 x_4 x_5) w'_1
theorem bytes_Blob.calls (ok : Okay Tryz.prog) {out_A : Option Addr} {out_n : Nat} {out_c : Nat} {b_A : Option Addr} {b_n : Nat} {b_c : Nat} {w : World} {K : Value → World → Prop} (h : bytes_Blob.W out_A out_n out_c b_A b_n b_c w K) : CallsV Tryz.prog 28 #[.slice out_A out_n out_c, .slice b_A b_n b_c] w K :=
  fnW_calls ok Tryz.func28 (an := .auto) (args := [.slice out_A out_n out_c, .slice b_A b_n b_c]) (Eq.mp (by kernel_rfl) h)
noncomputable def record_Put.W : Option Addr → Nat → Nat → World → (Value → World → Prop) → Prop := fun (row_A : Option Addr) (row_n row_c : Nat) (w : World) (K : Value → World → Prop) => CallsV
 Tryz.prog 64 #[Value.slice row_A row_n row_c] w fun (v : Value) (w' : World) => ∃ (x : Int), v = Value.int IntKind.i64 x ∧ bif !decide (x = (0 : Int)) then K (Value.tuple #[Value.slice
 none 0 0, Value.int IntKind.i64 x]) w' else CallsV Tryz.prog 63 #[Value.slice none 0 0, Value.int IntKind.u64 (IntKind.wrap IntKind.u64 (↑row_n : Int))] w' fun (v : Value) (w' : World) =>
 ∃ (x : Option Addr) (x_1 x_2 : Nat), v = Value.slice x x_1 x_2 ∧ ∃ (I : Option Addr → Nat → Nat → Int → World → Prop) (μ : Option Addr → Nat → Nat → Int → World → Nat), I x x_1 x_2 (0 : Int) w' ∧ ∀ (x
 : Option Addr) (x_3 x_4 : Nat) (x_5 : Int) (w : World), I x x_3 x_4 x_5 w → bif decide (x_5 < (↑row_n : Int)) then ∃ (ad : Addr), row_A = some ad ∧ ((0 : Int) ≤ x_5 ∧ x_5 < (↑row_n :
 Int)) ∧ ∃ (x_6 : Int), World.cell? w (Addr.add (Addr.add ad (Int.toNat x_5 * 3)) 0) = some (Value.int IntKind.u8 x_6) ∧ ∃ (x_7 : Int), World.cell? w (Addr.add (Addr.add ad (Int.toNat x_5 * 3))
 1) = some (Value.int IntKind.i64 x_7) ∧ ∃ (x_8 : ByteArray), World.cell? w (Addr.add (Addr.add ad (Int.toNat x_5 * 3)) 2) = some (Value.string x_8) ∧ (Option.isSome (World.cell?
 (World.alloc w (Obj.cells #[Value.int IntKind.u8 (0 : Int), Value.int IntKind.i64 (0 : Int), Value.string (ByteArray.mk #[])] 54)) (Addr.add (Addr.mk (Array.size (World.heap w)) 0 none) 0)) =
 true ∧ World.frozen? (World.alloc w (Obj.cells #[Value.int IntKind.u8 (0 : Int), Value.int IntKind.i64 (0 : Int), Value.string (ByteArray.mk #[])] 54)) (Addr.add (Addr.mk (Array.size (World.heap
 w)) 0 none) 0) = false) ∧ (Option.isSome (World.cell? (World.setCell (World.alloc w (Obj.cells #[Value.int IntKind.u8 (0 : Int), Value.int IntKind.i64 (0 : Int), Value.string (ByteArray.mk
 #[])] 54)) (Addr.add (Addr.mk (Array.size (World.heap w)) 0 none) 0) (Value.int IntKind.u8 x_6)) (Addr.add (Addr.mk (Array.size (World.heap w)) 0 none) 1)) = true ∧ World.frozen?
 (World.setCell (World.alloc w (Obj.cells #[Value.int IntKind.u8 (0 : Int), Value.int IntKind.i64 (0 : Int), Value.string (ByteArray.mk #[])] 54)) (Addr.add (Addr.mk (Array.size (World.heap w)) 0
 none) 0) (Value.int IntKind.u8 x_6)) (Addr.add (Addr.mk (Array.size (World.heap w)) 0 none) 1) = false) ∧ (Option.isSome (World.cell? (World.setCell (World.setCell (World.alloc w
 (Obj.cells #[Value.int IntKind.u8 (0 : Int), Value.int IntKind.i64 (0 : Int), Value.string (ByteArray.mk #[])] 54)) (Addr.add (Addr.mk (Array.size (World.heap w)) 0 none) 0) (Value.int
 IntKind.u8 x_6)) (Addr.add (Addr.mk (Array.size (World.heap w)) 0 none) 1) (Value.int IntKind.i64 x_7)) (Addr.add (Addr.mk (Array.size (World.heap w)) 0 none) 2)) = true ∧
 World.frozen? (World.setCell (World.setCell (World.alloc w (Obj.cells #[Value.int IntKind.u8 (0 : Int), Value.int IntKind.i64 (0 : Int), Value.string (ByteArray.mk #[])] 54)) (Addr.add (Addr.mk
 (Array.size (World.heap w)) 0 none) 0) (Value.int IntKind.u8 x_6)) (Addr.add (Addr.mk (Array.size (World.heap w)) 0 none) 1) (Value.int IntKind.i64 x_7)) (Addr.add (Addr.mk (Array.size
 (World.heap w)) 0 none) 2) = false) ∧ ∃ (x_9 : Int), World.cell? (World.setCell (World.setCell (World.setCell (World.alloc w (Obj.cells #[Value.int IntKind.u8 (0 : Int), Value.int
 IntKind.i64 (0 : Int), Value.string (ByteArray.mk #[])] 54)) (Addr.add (Addr.mk (Array.size (World.heap w)) 0 none) 0) (Value.int IntKind.u8 x_6)) (Addr.add (Addr.mk (Array.size (World.heap w))
 0 none) 1) (Value.int IntKind.i64 x_7)) (Addr.add (Addr.mk (Array.size (World.heap w)) 0 none) 2) (Value.string x_8)) (Addr.add (Addr.mk (Array.size (World.heap w)) 0 none) 0) =
 some (Value.int IntKind.u8 x_9) ∧ ∃ (x_10 : Int), World.cell? (World.setCell (World.setCell (World.setCell (World.alloc w (Obj.cells #[Value.int IntKind.u8 (0 : Int), Value.int IntKind.i64 (0 :
 Int), Value.string (ByteArray.mk #[])] 54)) (Addr.add (Addr.mk (Array.size (World.heap w)) 0 none) 0) (Value.int IntKind.u8 x_6)) (Addr.add (Addr.mk (Array.size (World.heap w)) 0 none) 1)
 (Value.int IntKind.i64 x_7)) (Addr.add (Addr.mk (Array.size (World.heap w)) 0 none) 2) (Value.string x_8)) (Addr.add (Addr.mk (Array.size (World.heap w)) 0 none) 1) = some
 (Value.int IntKind.i64 x_10) ∧ ∃ (x_11 : ByteArray), World.cell? (World.setCell (World.setCell (World.setCell (World.alloc w (Obj.cells #[Value.int IntKind.u8 (0 : Int), Value.int IntKind.i64 (0 :
 Int), Value.string (ByteArray.mk #[])] 54)) (Addr.add (Addr.mk (Array.size (World.heap w)) 0 none) 0) (Value.int IntKind.u8 x_6)) (Addr.add (Addr.mk (Array.size (World.heap w)) 0 none) 1)
 (Value.int IntKind.i64 x_7)) (Addr.add (Addr.mk (Array.size (World.heap w)) 0 none) 2) (Value.string x_8)) (Addr.add (Addr.mk (Array.size (World.heap w)) 0 none) 2) = some
 (Value.string x_11) ∧ CallsV Tryz.prog 65 #[Value.agg #[Value.int IntKind.u8 x_9, Value.int IntKind.i64 x_10, Value.string x_11]] (World.setCell (World.setCell (World.setCell (World.alloc w (Obj.cells
 #[Value.int IntKind.u8 (0 : Int), Value.int IntKind.i64 (0 : Int), Value.string (ByteArray.mk #[])] 54)) (Addr.add (Addr.mk (Array.size (World.heap w)) 0 none) 0) (Value.int IntKind.u8 x_6))
 (Addr.add (Addr.mk (Array.size (World.heap w)) 0 none) 1) (Value.int IntKind.i64 x_7)) (Addr.add (Addr.mk (Array.size (World.heap w)) 0 none) 2) (Value.string x_8)) fun (v : Value) (w' :
 World) => ∃ (x_12 : Int), v = Value.int IntKind.u64 x_12 ∧ CallsV Tryz.prog 63 #[Value.slice x x_3 x_4, Value.int IntKind.u64 x_12] w' fun (v : Value) (w' : World) => ∃ (x_13 : Option Addr) (x_14 x_15
 : Nat), v = Value.slice x_13 x_14 x_15 ∧ I x_13 x_14 x_15 (IntKind.wrap IntKind.i64 (x_5 + (1 : Int))) w' ∧ μ x_13 x_14 x_15 (IntKind.wrap IntKind.i64 (x_5 + (1 : Int))) w' < μ x x_3 x_4 x_5 w else ∃
 (I : Option Addr → Nat → Nat → Int → World → Prop) (μ : Option Addr → Nat → Nat → Int → World → Nat), I x x_3 x_4 (0 : Int) w ∧ ∀ (x : Option Addr) (x_6 x_7 : Nat) (x_8 : Int) (w : World), I x x_6 x_7
 x_8 w → bif decide (x_8 < (↑row_n : Int)) then ∃ (ad : Addr), row_A = some ad ∧ ((0 : Int) ≤ x_8 ∧ x_8 < (↑row_n : Int)) ∧ ∃ (x_9 : Int), World.cell? w (Addr.add (Addr.add ad
 (Int.toNat x_8 * 3)) 0) = some (Value.int IntKind.u8 x_9) ∧ ∃ (x_10 : Int), World.cell? w (Addr.add (Addr.add ad (Int.toNat x_8 * 3)) 1) = some (Value.int IntKind.i64 x_10) ∧ ∃ (x_11 :
 ByteArray), World.cell? w (Addr.add (Addr.add ad (Int.toNat x_8 * 3)) 2) = some (Value.string x_11) ∧ (Option.isSome (World.cell? (World.alloc w (Obj.cells #[Value.int IntKind.u8 (0 : Int),
 Value.int IntKind.i64 (0 : Int), Value.string (ByteArray.mk #[])] 54)) (Addr.add (Addr.mk (Array.size (World.heap w)) 0 none) 0)) = true ∧ World.frozen? (World.alloc w (Obj.cells
 #[Value.int IntKind.u8 (0 : Int), Value.int IntKind.i64 (0 : Int), Value.string (ByteArray.mk #[])] 54)) (Addr.add (Addr.mk (Array.size (World.heap w)) 0 none) 0) = false) ∧ (Option.isSome
 (World.cell? (World.setCell (World.alloc w (Obj.cells #[Value.int IntKind.u8 (0 : Int), Value.int IntKind.i64 (0 : Int), Value.string (ByteArray.mk #[])] 54)) (Addr.add (Addr.mk (Array.size (World.heap
 w)) 0 none) 0) (Value.int IntKind.u8 x_9)) (Addr.add (Addr.mk (Array.size (World.heap w)) 0 none) 1)) = true ∧ World.frozen? (World.setCell (World.alloc w (Obj.cells #[Value.int
 IntKind.u8 (0 : Int), Value.int IntKind.i64 (0 : Int), Value.string (ByteArray.mk #[])] 54)) (Addr.add (Addr.mk (Array.size (World.heap w)) 0 none) 0) (Value.int IntKind.u8 x_9)) (Addr.add
 (Addr.mk (Array.size (World.heap w)) 0 none) 1) = false) ∧ (Option.isSome (World.cell? (World.setCell (World.setCell (World.alloc w (Obj.cells #[Value.int IntKind.u8 (0 : Int), Value.int
 IntKind.i64 (0 : Int), Value.string (ByteArray.mk #[])] 54)) (Addr.add (Addr.mk (Array.size (World.heap w)) 0 none) 0) (Value.int IntKind.u8 x_9)) (Addr.add (Addr.mk (Array.size (World.heap w))
 0 none) 1) (Value.int IntKind.i64 x_10)) (Addr.add (Addr.mk (Array.size (World.heap w)) 0 none) 2)) = true ∧ World.frozen? (World.setCell (World.setCell (World.alloc w (Obj.cells
 #[Value.int IntKind.u8 (0 : Int), Value.int IntKind.i64 (0 : Int), Value.string (ByteArray.mk #[])] 54)) (Addr.add (Addr.mk (Array.size (World.heap w)) 0 none) 0) (Value.int IntKind.u8 x_9))
 (Addr.add (Addr.mk (Array.size (World.heap w)) 0 none) 1) (Value.int IntKind.i64 x_10)) (Addr.add (Addr.mk (Array.size (World.heap w)) 0 none) 2) = false) ∧ ∃ (x_12 : Int),
 World.cell? (World.setCell (World.setCell (World.setCell (World.alloc w (Obj.cells #[Value.int IntKind.u8 (0 : Int), Value.int IntKind.i64 (0 : Int), Value.string (ByteArray.mk #[])] 54)) (Addr.add
 (Addr.mk (Array.size (World.heap w)) 0 none) 0) (Value.int IntKind.u8 x_9)) (Addr.add (Addr.mk (Array.size (World.heap w)) 0 none) 1) (Value.int IntKind.i64 x_10)) (Addr.add (Addr.mk
 (Array.size (World.heap w)) 0 none) 2) (Value.string x_11)) (Addr.add (Addr.mk (Array.size (World.heap w)) 0 none) 0) = some (Value.int IntKind.u8 x_12) ∧ bif decide
 (x_12 = (1 : Int)) then ∃ (S : World → Prop), S (World.drew (World.setCell (World.setCell (World.setCell (World.alloc w (Obj.cells #[Value.int IntKind.u8 (0 : Int), Value.int IntKind.i64 (0 : Int),
 Value.string (ByteArray.mk #[])] 54)) (Addr.add (Addr.mk (Array.size (World.heap w)) 0 none) 0) (Value.int IntKind.u8 x_9)) (Addr.add (Addr.mk (Array.size (World.heap w)) 0 none) 1)
 (Value.int IntKind.i64 x_10)) (Addr.add (Addr.mk (Array.size (World.heap w)) 0 none) 2) (Value.string x_11))) ∧ ∃ (x_13 : Int), (∀ (u : World), S u → World.cell? u (Addr.add (Addr.mk (Array.size
 (World.heap w)) 0 none) 1) = some (Value.int IntKind.i64 x_13)) ∧ ∃ (x_14 : Int), (∀ (u : World), S u → World.cell? u (Addr.add (Addr.mk (Array.size (World.heap w)) 0 none) 1) =
 some (Value.int IntKind.i64 x_14)) ∧ CallsV Tryz.prog 67 #[Value.int IntKind.i64 x_14] (World.drew (World.setCell (World.setCell (World.setCell (World.alloc w (Obj.cells #[Value.int IntKind.u8
 (0 : Int), Value.int IntKind.i64 (0 : Int), Value.string (ByteArray.mk #[])] 54)) (Addr.add (Addr.mk (Array.size (World.heap w)) 0 none) 0) (Value.int IntKind.u8 x_9)) (Addr.add (Addr.mk
 (Array.size (World.heap w)) 0 none) 1) (Value.int IntKind.i64 x_10)) (Addr.add (Addr.mk (Array.size (World.heap w)) 0 none) 2) (Value.string x_11))) fun (v : Value) (w' : World) => ∃
 (x_15 : Int), v = Value.int IntKind.i64 x_15 ∧ ∃ (S' : World → Prop), (∀ (u : World), S' u → S u) ∧ S' w' ∧ CallsV Tryz.prog 66 #[Value.slice x x_6 x_7, Value.int IntKind.u64 (IntKind.wrap IntKind.u64
 x_13), Value.int IntKind.i64 x_15] w' fun (v : Value) (w' : World) => ∃ (x_16 : Option Addr) (x_17 x_18 : Nat), v = Value.slice x_16 x_17 x_18 ∧ ∃ (S'_1 : World → Prop), (∀ (u : World), S'_1 u → S' u)
 ∧ S'_1 w' ∧ ∃ (x_19 : ByteArray), World.cell? w' (Addr.add (Addr.mk (Array.size (World.heap w)) 0 none) 2) = some (Value.string x_19) ∧ ∃ (x_20 : Option Addr) (x_21 x_22 : Nat) (w'_1 :
 World), RunsTo Tryz.prog (Builtin.append_ (Array.mk [32, 9]) 32 #[Value.slice x_16 x_17 x_18, Value.string x_19]) w' (Value.slice x_20 x_21 x_22) w'_1 ∧ I x_20 x_21 x_22 (IntKind.wrap IntKind.i64 (x_8
 + (1 : Int))) w'_1 ∧ μ x_20 x_21 x_22 (IntKind.wrap IntKind.i64 (x_8 + (1 : Int))) w'_1 < μ x x_6 x_7 x_8 w else ∃ (x_13 : ByteArray), World.cell? (World.setCell (World.setCell (World.setCell
 (World.alloc w (Obj.cells #[Value.int IntKind.u8 (0 : Int), Value.int IntKind.i64 (0 : Int), Value.string (ByteArray.mk #[])] 54)) (Addr.add (Addr.mk (Array.size (World.heap w)) 0 none) 0)
 (Value.int IntKind.u8 x_9)) (Addr.add (Addr.mk (Array.size (World.heap w)) 0 none) 1) (Value.int IntKind.i64 x_10)) (Addr.add (Addr.mk (Array.size (World.heap w)) 0 none) 2) (Value.string
 x_11)) (Addr.add (Addr.mk (Array.size (World.heap w)) 0 none) 2) = some (Value.string x_13) ∧ ∃ (x_14 : Option Addr) (x_15 x_16 : Nat) (w' : World), RunsTo Tryz.prog (Builtin.append_
 (Array.mk [32, 9]) 32 #[Value.slice x x_6 x_7, Value.string x_13]) (World.setCell (World.setCell (World.setCell (World.alloc w (Obj.cells #[Value.int IntKind.u8 (0 : Int), Value.int IntKind.i64 (0 :
 Int), Value.string (ByteArray.mk #[])] 54)) (Addr.add (Addr.mk (Array.size (World.heap w)) 0 none) 0) (Value.int IntKind.u8 x_9)) (Addr.add (Addr.mk (Array.size (World.heap w)) 0 none) 1)
 (Value.int IntKind.i64 x_10)) (Addr.add (Addr.mk (Array.size (World.heap w)) 0 none) 2) (Value.string x_11)) (Value.slice x_14 x_15 x_16) w' ∧ I x_14 x_15 x_16 (IntKind.wrap IntKind.i64 (x_8 +
 (1 : Int))) w' ∧ μ x_14 x_15 x_16 (IntKind.wrap IntKind.i64 (x_8 + (1 : Int))) w' < μ x x_6 x_7 x_8 w else CallsV Tryz.prog 68 #[Value.slice x x_6 x_7] w fun (v : Value) (w' : World) => ∃ (x : Option
 Addr) (x_9 x_10 : Nat) (x_11 : Int), v = Value.tuple #[Value.slice x x_9 x_10, Value.int IntKind.i64 x_11] ∧ K (Value.tuple #[Value.slice x x_9 x_10, Value.int IntKind.i64 x_11]) w'
theorem record_Put.calls (ok : Okay Tryz.prog) {row_A : Option Addr} {row_n : Nat} {row_c : Nat} {w : World} {K : Value → World → Prop} (h : record_Put.W row_A row_n row_c w K) : CallsV Tryz.prog 27 #[.slice row_A row_n row_c] w K :=
  fnW_calls ok Tryz.func27 (an := (.seq .auto (.seq .auto (.seq .auto (.seq (.seq .auto (.block (.loop [(5, .one .slc), (21, .one (.int .i64))] .auto))) (.seq (.seq .auto (.block (.loop [(5, .one .slc), (32, .one (.int .i64))] .auto))) .auto)))))) (args := [.slice row_A row_n row_c]) (Eq.mp (by kernel_rfl) h)
noncomputable def record_sort.W : Int → Int → ByteArray → World → (Value → World → Prop) → Prop := fun (v0 v1 : Int) (v2 : ByteArray) (w : World) (K : Value → World → Prop) => ∃ (x : Int), World.cell?
 (World.alloc w (Obj.cells #[Value.int IntKind.u8 v0, Value.int IntKind.i64 v1, Value.string v2] 54)) (Addr.add (Addr.mk (Array.size (World.heap w)) 0 none) 0) = some (Value.int IntKind.u8
 x) ∧ bif decide (x = (1 : Int)) then ∃ (x : Int), World.cell? (World.alloc w (Obj.cells #[Value.int IntKind.u8 v0, Value.int IntKind.i64 v1, Value.string v2] 54)) (Addr.add (Addr.mk
 (Array.size (World.heap w)) 0 none) 1) = some (Value.int IntKind.i64 x) ∧ CallsV Tryz.prog 67 #[Value.int IntKind.i64 x] (World.alloc w (Obj.cells #[Value.int IntKind.u8 v0, Value.int
 IntKind.i64 v1, Value.string v2] 54)) fun (v : Value) (w' : World) => ∃ (x : Int), v = Value.int IntKind.i64 x ∧ K (Value.int IntKind.u64 (IntKind.wrap IntKind.u64 x)) w' else bif decide (x =
 (3 : Int)) then ∃ (x : ByteArray), World.cell? (World.alloc w (Obj.cells #[Value.int IntKind.u8 v0, Value.int IntKind.i64 v1, Value.string v2] 54)) (Addr.add (Addr.mk (Array.size (World.heap w)) 0
 none) 2) = some (Value.string x) ∧ K (Value.int IntKind.u64 (IntKind.wrap IntKind.u64 (IntKind.wrap IntKind.u64 ((2 : Int) * IntKind.wrap IntKind.u64 (↑(ByteArray.size x) : Int)) + (10 :
 Int)))) (World.alloc w (Obj.cells #[Value.int IntKind.u8 v0, Value.int IntKind.i64 v1, Value.string v2] 54)) else bif decide (x = (2 : Int)) then ∃ (x : ByteArray), World.cell? (World.alloc w
 (Obj.cells #[Value.int IntKind.u8 v0, Value.int IntKind.i64 v1, Value.string v2] 54)) (Addr.add (Addr.mk (Array.size (World.heap w)) 0 none) 2) = some (Value.string x) ∧ K (Value.int
 IntKind.u64 (IntKind.wrap IntKind.u64 (IntKind.wrap IntKind.u64 ((2 : Int) * IntKind.wrap IntKind.u64 (↑(ByteArray.size x) : Int)) + (11 : Int)))) (World.alloc w (Obj.cells #[Value.int IntKind.u8 v0,
 Value.int IntKind.i64 v1, Value.string v2] 54)) else K (Value.int IntKind.u64 (0 : Int)) (World.alloc w (Obj.cells #[Value.int IntKind.u8 v0, Value.int IntKind.i64 v1, Value.string v2] 54))
theorem record_sort.calls (ok : Okay Tryz.prog) {v0 : Int} {v1 : Int} {v2 : ByteArray} {w : World} {K : Value → World → Prop} (h : record_sort.W v0 v1 v2 w K) : CallsV Tryz.prog 65 #[.agg #[.int .u8 v0, .int .i64 v1, .string v2]] w K :=
  fnW_calls ok Tryz.func65 (an := .auto) (args := [.agg #[.int .u8 v0, .int .i64 v1, .string v2]]) (Eq.mp (by kernel_rfl) h)
noncomputable def record_high.W : Option Addr → Nat → Nat → Int → Int → World → (Value → World → Prop) → Prop := fun (out_A : Option Addr) (out_n out_c : Nat) (n k : Int) (w : World) (K : Value → World
 → Prop) => ∃ (I : Option Addr → Nat → Nat → Int → World → Prop) (μ : Option Addr → Nat → Nat → Int → World → Nat), I out_A out_n out_c (IntKind.wrap IntKind.i64 (k - (1 : Int))) w ∧ ∀ (x : Option Addr)
 (x_1 x_2 : Nat) (x_3 : Int) (w : World), I x x_1 x_2 x_3 w → bif decide ((0 : Int) ≤ x_3) then (0 : Int) ≤ IntKind.wrap IntKind.i64 ((8 : Int) * x_3) ∧ ∃ (x_4 : Option Addr) (x_5 x_6 : Nat)
 (w' : World), RunsTo Tryz.prog (Builtin.append_ (Array.mk [32, 32]) 32 #[Value.slice x x_1 x_2, Value.slice (some (Addr.mk (Array.size (World.heap w)) 0 none)) 1 1]) (World.alloc w
 (Obj.cells #[Value.int IntKind.u8 (IntKind.wrap IntKind.u8 (Int.fdiv n ((2 : Int) ^ Min.min (Int.toNat (IntKind.wrap IntKind.i64 ((8 : Int) * x_3))) 64)))] 5)) (Value.slice x_4 x_5 x_6) w' ∧ I x_4 x_5
 x_6 (IntKind.wrap IntKind.i64 (x_3 - (1 : Int))) w' ∧ μ x_4 x_5 x_6 (IntKind.wrap IntKind.i64 (x_3 - (1 : Int))) w' < μ x x_1 x_2 x_3 w else K (Value.slice x x_1 x_2) w
theorem record_high.calls (ok : Okay Tryz.prog) {out_A : Option Addr} {out_n : Nat} {out_c : Nat} {n : Int} {k : Int} {w : World} {K : Value → World → Prop} (h : record_high.W out_A out_n out_c n k w K) : CallsV Tryz.prog 66 #[.slice out_A out_n out_c, .int .u64 n, .int .i64 k] w K :=
  fnW_calls ok Tryz.func66 (an := (.seq .auto (.seq (.seq .auto (.block (.loop [(0, .one .slc), (7, .one (.int .i64))] .auto))) .auto))) (args := [.slice out_A out_n out_c, .int .u64 n, .int .i64 k]) (Eq.mp (by kernel_rfl) h)
noncomputable def record_wide.W : Int → World → (Value → World → Prop) → Prop := fun (n : Int) (w : World) (K : Value → World → Prop) => ∃ (I : Int → World → Prop) (μ : Int → World → Nat), ((0 : Int) ≤
 IntKind.wrap IntKind.i64 ((64 : Int) - IntKind.wrap IntKind.i64 ((8 : Int) * (1 : Int))) ∧ (0 : Int) ≤ IntKind.wrap IntKind.i64 ((64 : Int) - IntKind.wrap IntKind.i64 ((8 : Int) * (1 : Int))) ∧ bif
 !decide (Int.fdiv (IntKind.wrap IntKind.i64 (n * (2 : Int) ^ Min.min (Int.toNat (IntKind.wrap IntKind.i64 ((64 : Int) - IntKind.wrap IntKind.i64 ((8 : Int) * (1 : Int))))) 64)) ((2 : Int) ^
 Min.min (Int.toNat (IntKind.wrap IntKind.i64 ((64 : Int) - IntKind.wrap IntKind.i64 ((8 : Int) * (1 : Int))))) 64) = n) then I (IntKind.wrap IntKind.i64 ((1 : Int) + (1 : Int))) w else K (Value.int
 IntKind.i64 (1 : Int)) w) ∧ ∀ (x : Int) (w : World), I x w → bif decide (x < (8 : Int)) then (0 : Int) ≤ IntKind.wrap IntKind.i64 ((64 : Int) - IntKind.wrap IntKind.i64 ((8 : Int) * x)) ∧ (0
 : Int) ≤ IntKind.wrap IntKind.i64 ((64 : Int) - IntKind.wrap IntKind.i64 ((8 : Int) * x)) ∧ bif !decide (Int.fdiv (IntKind.wrap IntKind.i64 (n * (2 : Int) ^ Min.min (Int.toNat (IntKind.wrap
 IntKind.i64 ((64 : Int) - IntKind.wrap IntKind.i64 ((8 : Int) * x)))) 64)) ((2 : Int) ^ Min.min (Int.toNat (IntKind.wrap IntKind.i64 ((64 : Int) - IntKind.wrap IntKind.i64 ((8 : Int) * x)))) 64) = n)
 then I (IntKind.wrap IntKind.i64 (x + (1 : Int))) w ∧ μ (IntKind.wrap IntKind.i64 (x + (1 : Int))) w < μ x w else K (Value.int IntKind.i64 x) w else K (Value.int IntKind.i64 x) w
theorem record_wide.calls (ok : Okay Tryz.prog) {n : Int} {w : World} {K : Value → World → Prop} (h : record_wide.W n w K) : CallsV Tryz.prog 67 #[.int .i64 n] w K :=
  fnW_calls ok Tryz.func67 (an := (.seq .auto (.scope 0 [(3, .one (.int .i64))] .auto .auto))) (args := [.int .i64 n]) (Eq.mp (by kernel_rfl) h)
noncomputable def record_bounded.W : Option Addr → Nat → Nat → World → (Value → World → Prop) → Prop := fun (b_A : Option Addr) (b_n b_c : Nat) (w : World) (K : Value → World → Prop) => bif
 decide ((1048576 : Int) < (↑b_n : Int)) then K (Value.tuple #[Value.slice none 0 0, Value.int IntKind.i64 (3 : Int)]) w else K (Value.tuple #[Value.slice b_A b_n b_c, Value.int
 IntKind.i64 (0 : Int)]) w
theorem record_bounded.calls (ok : Okay Tryz.prog) {b_A : Option Addr} {b_n : Nat} {b_c : Nat} {w : World} {K : Value → World → Prop} (h : record_bounded.W b_A b_n b_c w K) : CallsV Tryz.prog 68 #[.slice b_A b_n b_c] w K :=
  fnW_calls ok Tryz.func68 (an := .auto) (args := [.slice b_A b_n b_c]) (Eq.mp (by kernel_rfl) h)
noncomputable def bytes_GetUint.W : Option Addr → Nat → Nat → Int → World → (Value → World → Prop) → Prop := fun (b_A : Option Addr) (b_n b_c : Nat) (atx : Int) (w : World) (K : Value → World → Prop)
 => bif decide (atx < (0 : Int)) then K (Value.tuple #[Value.int IntKind.u64 (0 : Int), Value.int IntKind.i64 (0 : Int), Value.int IntKind.i64 (2 : Int)]) w else bif decide ((↑b_n :
 Int) < atx) then K (Value.tuple #[Value.int IntKind.u64 (0 : Int), Value.int IntKind.i64 (0 : Int), Value.int IntKind.i64 (2 : Int)]) w else ∃ (J : Int → World → Prop), (∀ (x : Int) (w : World), J x w
 → bif decide (x = (↑b_n : Int)) then K (Value.tuple #[Value.int IntKind.u64 (0 : Int), Value.int IntKind.i64 (0 : Int), Value.int IntKind.i64 (11 : Int)]) w else ∃ (S : World → Prop), S
 (World.drew w) ∧ ∃ (ad : Addr), b_A = some ad ∧ ((0 : Int) ≤ x ∧ x < (↑b_n : Int)) ∧ ∃ (x_1 : Int), (∀ (u : World), S u → World.cell? u (Addr.add ad (Int.toNat x * 1)) = some (Value.int
 IntKind.u8 x_1)) ∧ ∃ (J : World → Prop), (∀ (w : World), J w → ∃ (I : Int → Int → World → Prop) (μ : Int → Int → World → Nat), I (IntKind.wrap IntKind.i64 (x - (1 : Int))) (IntKind.wrap IntKind.u64
 x_1) w ∧ ∀ (x_2 x_3 : Int) (w : World), I x_2 x_3 w → bif decide (atx ≤ x_2) then ∃ (ad : Addr), b_A = some ad ∧ ((0 : Int) ≤ x_2 ∧ x_2 < (↑b_n : Int)) ∧ ∃ (x : Int), World.cell? w
 (Addr.add ad (Int.toNat x_2 * 1)) = some (Value.int IntKind.u8 x) ∧ I (IntKind.wrap IntKind.i64 (x_2 - (1 : Int))) (IntKind.wrap IntKind.u64 (IntKind.wrap IntKind.u64 (x_3 * (128 : Int)) +
 IntKind.wrap IntKind.u64 (IntKind.wrap IntKind.u8 (x - (128 : Int))))) w ∧ μ (IntKind.wrap IntKind.i64 (x_2 - (1 : Int))) (IntKind.wrap IntKind.u64 (IntKind.wrap IntKind.u64 (x_3 * (128 : Int)) +
 IntKind.wrap IntKind.u64 (IntKind.wrap IntKind.u8 (x - (128 : Int))))) w < μ x_2 x_3 w else K (Value.tuple #[Value.int IntKind.u64 x_3, Value.int IntKind.i64 (IntKind.wrap IntKind.i64 (atx +
 IntKind.wrap IntKind.i64 (IntKind.wrap IntKind.i64 (x - atx) + (1 : Int)))), Value.int IntKind.i64 (0 : Int)]) w) ∧ bif decide ((1 : Int) < IntKind.wrap IntKind.i64 (IntKind.wrap IntKind.i64
 (x - atx) + (1 : Int))) then bif decide (x_1 = (0 : Int)) then K (Value.tuple #[Value.int IntKind.u64 (0 : Int), Value.int IntKind.i64 (0 : Int), Value.int IntKind.i64 (10 : Int)])
 (World.drew w) else bif decide (IntKind.wrap IntKind.i64 (IntKind.wrap IntKind.i64 (x - atx) + (1 : Int)) = (10 : Int)) then bif decide ((2 : Int) ≤ x_1) then K (Value.tuple
 #[Value.int IntKind.u64 (0 : Int), Value.int IntKind.i64 (0 : Int), Value.int IntKind.i64 (10 : Int)]) (World.drew w) else J (World.drew w) else J (World.drew w) else bif decide (IntKind.wrap
 IntKind.i64 (IntKind.wrap IntKind.i64 (x - atx) + (1 : Int)) = (10 : Int)) then bif decide ((2 : Int) ≤ x_1) then K (Value.tuple #[Value.int IntKind.u64 (0 : Int), Value.int IntKind.i64 (0 :
 Int), Value.int IntKind.i64 (10 : Int)]) (World.drew w) else J (World.drew w) else J (World.drew w)) ∧ ∃ (I : Int → World → Prop) (μ : Int → World → Nat), I atx w ∧ ∀ (x : Int) (w : World), I x w → bif
 decide (x < (↑b_n : Int)) then bif decide (x < IntKind.wrap IntKind.i64 (IntKind.wrap IntKind.i64 (atx + (10 : Int)) - (1 : Int))) then ∃ (ad : Addr), b_A = some ad ∧ ((0 :
 Int) ≤ x ∧ x < (↑b_n : Int)) ∧ ∃ (x_1 : Int), World.cell? w (Addr.add ad (Int.toNat x * 1)) = some (Value.int IntKind.u8 x_1) ∧ bif decide ((128 : Int) ≤ x_1) then I (IntKind.wrap
 IntKind.i64 (x + (1 : Int))) w ∧ μ (IntKind.wrap IntKind.i64 (x + (1 : Int))) w < μ x w else J x w else J x w else J x w
theorem bytes_GetUint.calls (ok : Okay Tryz.prog) {b_A : Option Addr} {b_n : Nat} {b_c : Nat} {atx : Int} {w : World} {K : Value → World → Prop} (h : bytes_GetUint.W b_A b_n b_c atx w K) : CallsV Tryz.prog 69 #[.slice b_A b_n b_c, .int .i64 atx] w K :=
  fnW_calls ok Tryz.func69 (an := (.seq .auto (.seq .auto (.seq .auto (.join [(7, .one (.int .i64))] (.block (.loop [(7, .one (.int .i64))] .auto)) (.seq .auto (.seq .auto (.join [] .auto (.seq .auto (.seq (.seq .auto (.block (.loop [(7, .one (.int .i64)), (10, .one (.int .u64))] .auto))) .auto)))))))))) (args := [.slice b_A b_n b_c, .int .i64 atx]) (Eq.mp (by kernel_rfl) h)
noncomputable def bytes_GetBlob.W : Option Addr → Nat → Nat → Int → Int → World → (Value → World → Prop) → Prop := fun (b_A : Option Addr) (b_n b_c : Nat) (atx most : Int) (w : World) (K : Value →
 World → Prop) => CallsV Tryz.prog 69 #[Value.slice b_A b_n b_c, Value.int IntKind.i64 atx] w fun (v : Value) (w' : World) => ∃ (x x_1 x_2 : Int), v = Value.tuple #[Value.int IntKind.u64 x, Value.int
 IntKind.i64 x_1, Value.int IntKind.i64 x_2] ∧ bif !decide (x_2 = (0 : Int)) then K (Value.tuple #[Value.slice none 0 0, Value.int IntKind.i64 (0 : Int), Value.int IntKind.i64 x_2]) w'
 else ((0 : Int) ≤ x_1 ∧ x_1 ≤ (↑b_n : Int)) ∧ bif decide (most < (0 : Int)) then K (Value.tuple #[Value.slice none 0 0, Value.int IntKind.i64 (0 : Int), Value.int IntKind.i64 (3 :
 Int)]) w' else bif decide (IntKind.wrap IntKind.u64 most < x) then K (Value.tuple #[Value.slice none 0 0, Value.int IntKind.i64 (0 : Int), Value.int IntKind.i64 (3 : Int)]) w' else bif
 decide (IntKind.wrap IntKind.u64 (↑(b_n - Int.toNat x_1) : Int) < x) then K (Value.tuple #[Value.slice none 0 0, Value.int IntKind.i64 (0 : Int), Value.int IntKind.i64 (11 : Int)]) w'
 else ((0 : Int) ≤ x ∧ x ≤ (↑(b_c - Int.toNat x_1) : Int)) ∧ ∃ (x_3 : Option Addr) (x_4 x_5 : Nat) (w'_1 : World), RunsTo Tryz.prog (Builtin.append_ (Array.mk [32, 32]) 32 #[Value.slice (some
 (Addr.mk (Array.size (World.heap w')) 0 none)) 0 0, Value.slice (cutAt (cutAt b_A b_c (Int.toNat x_1) 1) (b_c - Int.toNat x_1) 0 1) (Int.toNat x - 0) (b_c - Int.toNat x_1 - 0)]) (World.alloc w'
 (Obj.cells #[] 5)) (Value.slice x_3 x_4 x_5) w'_1 ∧ K (Value.tuple #[Value.slice x_3 x_4 x_5, Value.int IntKind.i64 (IntKind.wrap IntKind.i64 (x_1 + IntKind.wrap IntKind.i64 x)), Value.int IntKind.i64
 (0 : Int)]) w'_1
theorem bytes_GetBlob.calls (ok : Okay Tryz.prog) {b_A : Option Addr} {b_n : Nat} {b_c : Nat} {atx : Int} {most : Int} {w : World} {K : Value → World → Prop} (h : bytes_GetBlob.W b_A b_n b_c atx most w K) : CallsV Tryz.prog 70 #[.slice b_A b_n b_c, .int .i64 atx, .int .i64 most] w K :=
  fnW_calls ok Tryz.func70 (an := .auto) (args := [.slice b_A b_n b_c, .int .i64 atx, .int .i64 most]) (Eq.mp (by kernel_rfl) h)
end Go.Proofs.YtaifphjenebgoaaGreatDoor
set_option linter.unusedVariables false
set_option maxRecDepth 100000
namespace Go.Proofs.YtaifphjenebgoaaGreatDoor
open Go Go.Sx
noncomputable def record_right.W : Option Addr → Nat → Nat → World → (Value → World → Prop) → Prop := fun (row_A : Option Addr) (row_n row_c : Nat) (w : World) (K : Value → World → Prop) => bif
 decide ((200 : Int) < (↑row_n : Int)) then K (Value.int IntKind.i64 (3 : Int)) w else CallsV Tryz.prog 83 #[Value.slice row_A row_n row_c, Value.func (Fn.func 126) #[] #[]] w fun (v : Value)
 (w' : World) => ∃ (x : Bool), v = Value.bool x ∧ bif x then K (Value.int IntKind.i64 (2 : Int)) w' else K (Value.int IntKind.i64 (0 : Int)) w'
theorem record_right.calls (ok : Okay Tryz.prog) {row_A : Option Addr} {row_n : Nat} {row_c : Nat} {w : World} {K : Value → World → Prop} (h : record_right.W row_A row_n row_c w K) : CallsV Tryz.prog 64 #[.slice row_A row_n row_c] w K :=
  fnW_calls ok Tryz.func64 (an := (.named .auto)) (args := [.slice row_A row_n row_c]) (Eq.mp (by kernel_rfl) h)
noncomputable def record_right_1.W : Int → Int → ByteArray → World → (Value → World → Prop) → Prop := fun (v0 v1 : Int) (v2 : ByteArray) (w : World) (K : Value → World → Prop) => ∀ (g : Nat) (w' :
 World), Fresh w g w' [Value.int IntKind.u8 v0, Value.int IntKind.i64 v1, Value.string v2] 54 → ∃ (x : Int), World.cell? w' (Addr.add (Addr.mk g 0 none) 0) = some (Value.int IntKind.u8 x)
 ∧ ∃ (x_1 : Int), World.cell? w' (Addr.add (Addr.mk g 0 none) 1) = some (Value.int IntKind.i64 x_1) ∧ ∃ (x_2 : ByteArray), World.cell? w' (Addr.add (Addr.mk g 0 none) 2) =
 some (Value.string x_2) ∧ CallsV Tryz.prog 77 #[Value.agg #[Value.int IntKind.u8 x, Value.int IntKind.i64 x_1, Value.string x_2]] w' fun (v : Value) (w' : World) => ∃ (x : Bool), v = Value.bool
 x ∧ K (Value.bool !x) w'
theorem record_right_1.calls (ok : Okay Tryz.prog) {v0 : Int} {v1 : Int} {v2 : ByteArray} {w : World} {K : Value → World → Prop} (h : record_right_1.W v0 v1 v2 w K) : CallsV Tryz.prog 126 #[.agg #[.int .u8 v0, .int .i64 v1, .string v2]] w K :=
  fnW_calls ok Tryz.func126 (an := (.named .auto)) (args := [.agg #[.int .u8 v0, .int .i64 v1, .string v2]]) (Eq.mp (by kernel_rfl) h)
end Go.Proofs.YtaifphjenebgoaaGreatDoor
set_option linter.unusedVariables false
set_option linter.unusedSimpArgs false
namespace R1
open Go.Sx

structure V where
  k : Int
  n : Int
  s : ByteArray

def right (v : V) : Bool :=
  if v.k = 0 then decide (v.n = 0 ∧ v.s.size = 0) else if v.k = 1 then decide (v.s.size = 0) else if v.k = 2 ∨ v.k = 3 then decide (v.n = 0 ∧ v.s.size ≤ 65536) else false
def good (v : V) : Prop := (0 ≤ v.k ∧ v.k ≤ 255) ∧ (-9223372036854775808 ≤ v.n ∧ v.n ≤ 9223372036854775807) ∧ v.s.size ≤ Go.maxLen
def rightRow (l : List V) : Int := if 200 < l.length then 3 else if l.all right then 0 else 2

/-! ## numbers -/
def fits (n : Int) (k : Nat) : Bool := decide (-(2 ^ (8 * k - 1) : Nat) ≤ n ∧ n < (2 ^ (8 * k - 1) : Nat))
def wideFrom (n : Int) : Nat → Nat → Nat
  | 0, k => k
  | f + 1, k => if fits n k then k else wideFrom n f (k + 1)
def wide (n : Int) : Nat := wideFrom n 7 1
theorem wideFrom_le (n : Int) : ∀ f k, k ≤ wideFrom n f k ∧ wideFrom n f k ≤ f + k
  | 0, k => by simp [wideFrom]
  | f + 1, k => by
    have := wideFrom_le n f (k + 1)
    unfold wideFrom; split <;> omega
theorem wide_pos (n : Int) : 1 ≤ wide n := (wideFrom_le n 7 1).1
theorem wide_le (n : Int) : wide n ≤ 8 := (wideFrom_le n 7 1).2
def hi (m : Nat) : Nat → List UInt8
  | 0 => []
  | k + 1 => (m / 256 ^ k % 256).toUInt8 :: hi m k
theorem hi_length (m : Nat) : ∀ k, (hi m k).length = k
  | 0 => rfl
  | k + 1 => by simp [hi, hi_length m k]

/-! ## keys -/
def esc : List UInt8 → List UInt8
  | [] => []
  | c :: r => if c = 0 then 0 :: 255 :: esc r else c :: esc r
def kpart (v : V) : List UInt8 :=
  if v.k = 0 then [1] else if v.k = 1 then 2 :: hi (v.n + 9223372036854775808).toNat 8 else (if v.k = 2 then 3 else 4) :: esc (sb v.s) ++ [0, 0]
def tn (d : Bool) (l : List UInt8) : List UInt8 := if d then l.map (fun b => ~~~b) else l
def key : List V → List Bool → List UInt8
  | v :: vs, d :: ds => tn d (kpart v) ++ key vs ds
  | _, _ => []
/-! ## rows -/
def sort (v : V) : Nat := if v.k = 1 then wide v.n else if v.k = 3 then 2 * v.s.size + 10 else if v.k = 2 then 2 * v.s.size + 11 else 0
def body (v : V) : List UInt8 := (if v.k = 1 then hi (v.n % 18446744073709551616).toNat (wide v.n) else []) ++ sb v.s
theorem right_size {v : V} (h : right v = true) : v.s.size ≤ 65536 := by
  unfold right at h
  split at h
  · have := of_decide_eq_true h; omega
  · split at h
    · have := of_decide_eq_true h; omega
    · split at h
      · have := of_decide_eq_true h; omega
      · cases h
end R1
set_option linter.unusedVariables false
set_option linter.unusedSimpArgs false
namespace Go.Proofs.YtaifphjenebgoaaGreatDoor
open Go Go.Sx R1
theorem okay : Okay Tryz.prog := ⟨by kernel_rfl, by kernel_rfl⟩
theorem brS {l l' : List UInt8} {A B : Prop} (h1 : l = l' → A) (h2 : l ≠ l' → B) : cond (ByteArray.toList ⟨l.toArray⟩ == ByteArray.toList ⟨l'.toArray⟩) A B := by rw [eq_str]; exact brd h1 h2
def vc (v : V) : List Value := [.int .u8 v.k, .int .i64 v.n, .string v.s]
def KV : Kd V := ⟨3, fun _ _ a cs => cs = vc a, fun h => by simp [h, vc], fun h _ => h⟩
theorem KV_pos : 0 < KV.size := by decide
theorem KV_one : ∀ (Ω : Nat → Prop) (w : World) a cs, KV.rep Ω w a cs → ∀ v ∈ cs, v.oneCell' = true := by
  intro Ω w a cs h v hv
  have h : cs = vc a := h
  subst h
  simp [vc] at hv
  rcases hv with rfl | rfl | rfl <;> rfl
def V0 : V := ⟨0, 0, ByteArray.empty⟩
end Go.Proofs.YtaifphjenebgoaaGreatDoor
set_option linter.unusedVariables false
set_option linter.unusedSimpArgs false
namespace B1

def dig (m k : Nat) : Nat := m / 128 ^ k % 128
theorem dig_lt (m k : Nat) : dig m k < 128 := Nat.mod_lt _ (by decide)
theorem dig_zero (m : Nat) : dig m 0 = m % 128 := by simp [dig]
theorem dig_succ (m k : Nat) : dig m (k + 1) = dig (m / 128) k := by
  unfold dig
  rw [Nat.pow_succ, Nat.mul_comm, Nat.div_div_eq_div_mul]
def enc (m : Nat) : List UInt8 :=
  if h : m < 128 then [m.toUInt8] else (m % 128 + 128).toUInt8 :: enc (m / 128)
termination_by m
decreasing_by omega
theorem enc_lt {m : Nat} (h : m < 128) : enc m = [m.toUInt8] := by rw [enc]; simp [h]
theorem enc_ge {m : Nat} (h : 128 ≤ m) : enc m = (m % 128 + 128).toUInt8 :: enc (m / 128) := by rw [enc]; simp [Nat.not_lt.2 h]
theorem enc_ne (m : Nat) : enc m ≠ [] := by rw [enc]; split <;> simp
theorem enc_length_pos (m : Nat) : 0 < (enc m).length := List.length_pos_iff.2 (enc_ne m)
def top (m : Nat) : Nat → Nat
  | 0 => 0
  | k + 1 => if 0 < dig m k then k else top m k
theorem top_le (m : Nat) : ∀ k, top m k ≤ k - 1
  | 0 => by simp [top]
  | k + 1 => by unfold top; have := top_le m k; split <;> omega
theorem top_small {m : Nat} (h : m < 128) : ∀ k, top m k = 0
  | 0 => rfl
  | k + 1 => by
    unfold top
    cases k with
    | zero => simp [top]
    | succ j =>
      have : dig m (j + 1) = 0 := by rw [dig_succ, Nat.div_eq_of_lt h]; simp [dig]
      rw [if_neg (by omega), top_small h]
theorem top_big {m : Nat} (h : 128 ≤ m) : ∀ k, m < 128 ^ (k + 1) → top m (k + 1) = top (m / 128) k + 1
  | 0, hk => by simp at hk; omega
  | k + 1, hk => by
    have hd : m / 128 < 128 ^ (k + 1) := by rw [Nat.div_lt_iff_lt_mul (by decide), ← Nat.pow_succ]; exact hk
    unfold top
    rw [dig_succ]
    by_cases hp : 0 < dig (m / 128) k
    · rw [if_pos hp]
      cases k <;> rw [if_pos hp]
    · rw [if_neg hp, if_neg hp]
      by_cases hs : m < 128 ^ (k + 1)
      · exact top_big h k hs
      · exfalso
        apply hp
        unfold dig
        have h1 : m / 128 / 128 ^ k = m / 128 ^ (k + 1) := by rw [Nat.div_div_eq_div_mul, Nat.pow_succ, Nat.mul_comm]
        rw [h1]
        have h2 : 0 < m / 128 ^ (k + 1) := Nat.div_pos (Nat.le_of_not_lt hs) (Nat.pow_pos (by decide))
        have h3 : m / 128 ^ (k + 1) < 128 := by rw [Nat.div_lt_iff_lt_mul (Nat.pow_pos (by decide)), Nat.mul_comm, ← Nat.pow_succ]; exact hk
        rw [Nat.mod_eq_of_lt h3]
        exact h2
theorem enc_top : ∀ (k m : Nat), m < 128 ^ k → 0 < k → enc m = (List.range (top m k)).map (fun j => (dig m j + 128).toUInt8) ++ [(dig m (top m k)).toUInt8] := by
  intro k
  induction k with
  | zero => intro m _ h; omega
  | succ k ih =>
    intro m hm _
    by_cases h : m < 128
    · rw [enc_lt h, top_small h, dig_zero, Nat.mod_eq_of_lt h]; rfl
    · have h' : 128 ≤ m := by omega
      cases k with
      | zero => simp at hm; omega
      | succ k =>
        have hd : m / 128 < 128 ^ (k + 1) := by rw [Nat.div_lt_iff_lt_mul (by decide), ← Nat.pow_succ]; exact hm
        rw [enc_ge h', ih (m / 128) hd (by omega), top_big h' (k + 1) hm, List.range_succ_eq_map]
        simp only [List.map_cons, List.map_map, List.cons_append, dig_zero, dig_succ, Function.comp_def]
theorem enc_length_le {m : Nat} : ∀ {k : Nat}, m < 128 ^ k → 0 < k → (enc m).length ≤ k := by
  intro k h hk
  rw [enc_top k m h hk]
  have := top_le m k
  simp; omega
theorem enc_le_ten {m : Nat} (h : m < 2 ^ 64) : (enc m).length ≤ 10 :=
  enc_length_le (k := 10) (Nat.lt_trans h (by decide)) (by decide)

/-! ## reading -/
inductive Dec where
  | ok (n used : Nat)
  | short
  | bad
def Dec.up (x : Nat) : Dec → Dec
  | .ok n u => .ok (128 * n + x) (u + 1)
  | .short => .short
  | .bad => .bad
def dec : Nat → List UInt8 → Dec
  | _, [] => .short
  | k, c :: r =>
    if k < 9 ∧ 128 ≤ c.toNat then (dec (k + 1) r).up (c.toNat - 128)
    else if (0 < k ∧ c.toNat = 0) ∨ (k = 9 ∧ 2 ≤ c.toNat) then .bad
    else .ok c.toNat 1

def scan : Nat → List UInt8 → Nat
  | _, [] => 0
  | k, c :: r => if k < 9 ∧ 128 ≤ c.toNat then scan (k + 1) r + 1 else 0
def vt : Nat → List UInt8 → Nat
  | _, [] => 0
  | 0, c :: _ => c.toNat
  | e + 1, c :: r => 128 * vt e r + (c.toNat - 128)
theorem scan_le : ∀ (l : List UInt8) (k : Nat), scan k l ≤ l.length
  | [], k => by simp [scan]
  | c :: r, k => by unfold scan; have := scan_le r (k + 1); split <;> simp <;> omega
theorem scan_nine : ∀ (l : List UInt8) (k : Nat), k ≤ 9 → k + scan k l ≤ 9
  | [], k, h => by simp [scan]; omega
  | c :: r, k, h => by
    unfold scan
    split
    · have := scan_nine r (k + 1) (by omega); omega
    · omega
theorem dec_eq : ∀ (l : List UInt8) (k : Nat), dec k l = if scan k l < l.length then
      (if (0 < k + scan k l ∧ (l.getD (scan k l) 0).toNat = 0) ∨ (k + scan k l = 9 ∧ 2 ≤ (l.getD (scan k l) 0).toNat) then .bad else .ok (vt (scan k l) l) (scan k l + 1)) else .short
  | [], k => by simp [dec]
  | c :: r, k => by
    by_cases hc : k < 9 ∧ 128 ≤ c.toNat
    · have hs : scan k (c :: r) = scan (k + 1) r + 1 := by rw [scan, if_pos hc]
      rw [dec, if_pos hc, dec_eq r (k + 1), hs]
      generalize scan (k + 1) r = s
      have e1 : k + 1 + s = k + (s + 1) := by omega
      have e2 : (s + 1 < (c :: r).length) = (s < r.length) := by simp
      have e3 : (c :: r).getD (s + 1) 0 = r.getD s 0 := by simp [List.getD]
      rw [e1, e3]
      by_cases hlt : s < r.length
      · rw [if_pos hlt, if_pos (show s + 1 < (c :: r).length by simpa using hlt)]
        by_cases hb : (0 < k + (s + 1) ∧ (r.getD s 0).toNat = 0) ∨ (k + (s + 1) = 9 ∧ 2 ≤ (r.getD s 0).toNat)
        · rw [if_pos hb, if_pos hb]; exact rfl
        · rw [if_neg hb, if_neg hb]; exact rfl
      · rw [if_neg hlt, if_neg (show ¬ s + 1 < (c :: r).length by simpa using hlt)]; exact rfl
    · have hs : scan k (c :: r) = 0 := by rw [scan, if_neg hc]
      rw [dec, if_neg hc, hs]
      rw [if_pos (show 0 < (c :: r).length by simp)]
      exact rfl
theorem vt_lt : ∀ (e : Nat) (l : List UInt8) (M : Nat), e < l.length → (l.getD e 0).toNat ≤ M → vt e l < (M + 1) * 128 ^ e
  | _, [], M, h, _ => absurd h (Nat.not_lt_zero _)
  | 0, c :: r, M, h, hM => by
    have hM' : c.toNat ≤ M := hM
    show c.toNat < (M + 1) * 1
    omega
  | e + 1, c :: r, M, h, hM => by
    have ih := vt_lt e r M (Nat.lt_of_succ_lt_succ h) hM
    have hc : c.toNat < 256 := c.toNat_lt
    show 128 * vt e r + (c.toNat - 128) < (M + 1) * (128 ^ e * 128)
    rw [← Nat.mul_assoc]
    omega
theorem vt_lt_u64 {l : List UInt8} (h : scan 0 l < l.length) (hb : ¬ (scan 0 l = 9 ∧ 2 ≤ (l.getD (scan 0 l) 0).toNat)) : vt (scan 0 l) l < 18446744073709551616 := by
  have h9 := scan_nine l 0 (by omega)
  generalize scan 0 l = e at *
  by_cases e9 : e = 9
  · subst e9
    have hlt := vt_lt 9 l 1 h (by have := fun h2 => hb ⟨rfl, h2⟩; omega)
    exact Nat.lt_of_lt_of_le hlt (by decide)
  · have hlt := vt_lt e l 255 h (by have := (l.getD e 0).toNat_lt; omega)
    have : (255 + 1) * 128 ^ e ≤ (255 + 1) * 128 ^ 8 := Nat.mul_le_mul_left _ (Nat.pow_le_pow_right (by decide) (by omega))
    exact Nat.lt_of_lt_of_le hlt (Nat.le_trans this (by decide))
theorem getD_drop {α : Type} (l : List α) (i j : Nat) (d : α) : (l.drop i).getD j d = l.getD (i + j) d := by simp [List.getD, List.getElem?_drop]
theorem drop_getD (l : List UInt8) (i : Nat) (h : i < l.length) : l.drop i = l.getD i 0 :: l.drop (i + 1) := by
  rw [List.drop_eq_getElem_cons h]; simp [List.getD, h]
theorem vt_drop (i e : Nat) (l : List UInt8) (h : i < l.length) (hi : i < e) : vt (e - i) (l.drop i) = 128 * vt (e - (i + 1)) (l.drop (i + 1)) + ((l.getD i 0).toNat - 128) := by
  rw [drop_getD l i h, show e - i = (e - (i + 1)) + 1 by omega]
  exact rfl
theorem vt_mono (e : Nat) (l : List UInt8) : ∀ i, i ≤ e → i ≤ l.length → vt (e - i) (l.drop i) ≤ vt e l
  | 0, _, _ => by simp
  | i + 1, h, h' => by
    have h1 := vt_mono e l i (by omega) (by omega)
    rw [vt_drop i e l (by omega) (by omega)] at h1
    omega
theorem vt_zero (l : List UInt8) (h : 0 < l.length) : vt 0 l = (l.getD 0 0).toNat := by
  cases l with
  | nil => simp at h
  | cons c r => rfl
theorem scan_ge : ∀ (l : List UInt8) (k i : Nat), i < scan k l → 128 ≤ (l.getD i 0).toNat
  | [], k, i, h => by simp [scan] at h
  | c :: r, k, i, h => by
    by_cases hc : k < 9 ∧ 128 ≤ c.toNat
    · rw [scan, if_pos hc] at h
      cases i with
      | zero => exact hc.2
      | succ i => exact scan_ge r (k + 1) i (by omega)
    · rw [scan, if_neg hc] at h; omega
theorem scan_unique : ∀ (l : List UInt8) (k e : Nat), k + e ≤ 9 → e ≤ l.length → (∀ i, i < e → 128 ≤ (l.getD i 0).toNat) → (e = l.length ∨ k + e = 9 ∨ (l.getD e 0).toNat < 128) → scan k l = e
  | [], k, e, _, he, _, _ => by simp at he; simp [scan, he]
  | c :: r, k, e, h9, he, hge, hst => by
    cases e with
    | zero =>
      rw [scan, if_neg]
      intro hc
      rcases hst with h | h | h
      · simp at h
      · omega
      · have h : c.toNat < 128 := h
        omega
    | succ e =>
      have h0 : 128 ≤ c.toNat := hge 0 (by omega)
      rw [scan, if_pos ⟨by omega, h0⟩]
      rw [scan_unique r (k + 1) e (by omega) (by simpa using he) (fun i hi => hge (i + 1) (by omega)) (by
        rcases hst with h | h | h
        · left; simpa using h
        · right; left; omega
        · right; right; exact h)]

def Dec.at (a : Int) : Dec → Nat × Int × Int
  | .ok n u => (n, a + u, 0)
  | .short => (0, 0, 11)
  | .bad => (0, 0, 10)
def getU (l : List UInt8) (at_ : Int) : Nat × Int × Int :=
  if at_ < 0 ∨ (l.length : Int) < at_ then (0, 0, 2) else (dec 0 (l.drop at_.toNat)).at at_

theorem toUInt8_toNat {n : Nat} (h : n < 256) : (n.toUInt8).toNat = n := by
  simp [Nat.toUInt8]; omega

/-! ## what is written is read -/
theorem dec_enc : ∀ (m k : Nat) (r : List UInt8), k ≤ 9 → m < 128 ^ (9 - k) * 2 → (0 < k → 0 < m) → dec k (enc m ++ r) = .ok m (enc m).length := by
  intro m
  induction m using Nat.strongRecOn with
  | ind m ih =>
    intro k r hk hm hpos
    by_cases h : m < 128
    · rw [enc_lt h]
      have ht : (m.toUInt8).toNat = m := toUInt8_toNat (by omega)
      show dec k (m.toUInt8 :: r) = _
      rw [dec, ht, if_neg (by omega), if_neg]
      · rfl
      · rintro (⟨h1, h2⟩ | ⟨h1, h2⟩)
        · have := hpos h1; omega
        · subst h1; simp at hm; omega
    · have h' : 128 ≤ m := by omega
      have hk9 : k < 9 := by
        rcases Nat.lt_or_ge k 9 with h | h
        · exact h
        · have : k = 9 := by omega
          subst this; simp at hm; omega
      rw [enc_ge h']
      have ht : ((m % 128 + 128).toUInt8).toNat = m % 128 + 128 := toUInt8_toNat (by omega)
      show dec k ((m % 128 + 128).toUInt8 :: (enc (m / 128) ++ r)) = _
      have hd : m / 128 < 128 ^ (9 - (k + 1)) * 2 := by
        rw [Nat.div_lt_iff_lt_mul (by decide), Nat.mul_right_comm, ← Nat.pow_succ, show (9 - (k + 1)).succ = 9 - k by omega]; exact hm
      rw [dec, ht, if_pos ⟨hk9, by omega⟩, ih (m / 128) (by omega) (k + 1) r (by omega) hd (by omega)]
      show Dec.ok _ _ = Dec.ok _ _
      rw [show 128 * (m / 128) + (m % 128 + 128 - 128) = m by omega]
      rfl
theorem lim64 {m : Nat} (h : m < 18446744073709551616) : m < 128 ^ (9 - 0) * 2 := Nat.lt_of_lt_of_le h (by decide)
theorem getU_enc (pre : List UInt8) (m : Nat) (r : List UInt8) (hm : m < 18446744073709551616) : getU (pre ++ (enc m ++ r)) (pre.length : Int) = (m, ((pre.length + (enc m).length : Nat) : Int), 0) := by
  rw [getU, if_neg (by simp; omega), Int.toNat_natCast, List.drop_left, dec_enc m 0 r (by omega) (lim64 hm) (by omega)]
  simp [Dec.at]
/-! ## order -/
/-! ## what is read is as it would be written -/
def low (l : List UInt8) : Nat := l.countP fun c => decide (c.toNat < 128)
theorem low_append (a b : List UInt8) : low (a ++ b) = low a + low b := List.countP_append
theorem dec_ok : ∀ (l : List UInt8) (k n u : Nat), k ≤ 9 → dec k l = .ok n u → 0 < u ∧ u ≤ l.length ∧ l.take u = enc n ∧ (0 < k → 0 < n) ∧ low (l.take u) = 1
  | [], k, n, u, hk, h => by simp [dec] at h
  | c :: r, k, n, u, hk, h => by
    have hc256 := c.toNat_lt
    by_cases hc : k < 9 ∧ 128 ≤ c.toNat
    · rw [dec, if_pos hc] at h
      cases hd : dec (k + 1) r with
      | ok n' u' =>
        rw [hd] at h
        injection h with h1 h2
        subst h1 h2
        obtain ⟨i1, i2, i3, i4, i5⟩ := dec_ok r (k + 1) n' u' (by omega) hd
        have hn := i4 (by omega)
        refine ⟨by omega, by simp; omega, ?_, fun _ => by omega, ?_⟩
        · rw [enc_ge (by omega), List.take_succ_cons, i3, show (128 * n' + (c.toNat - 128)) / 128 = n' by omega, show (128 * n' + (c.toNat - 128)) % 128 + 128 = c.toNat by omega]
          simp
        · rw [List.take_succ_cons]
          show low ([c] ++ r.take u') = 1
          rw [low_append, i5]
          simp [low]; omega
      | short => rw [hd] at h; cases h
      | bad => rw [hd] at h; cases h
    · rw [dec, if_neg hc] at h
      split at h
      · cases h
      · rename_i hb
        injection h with h1 h2
        subst h1 h2
        refine ⟨by omega, by simp, ?_, fun _ => by omega, ?_⟩
        · rw [enc_lt (by omega)]; simp
        · simp [low]; omega
end B1
set_option linter.unusedVariables false
set_option linter.unusedSimpArgs false
namespace Go.Proofs.YtaifphjenebgoaaGreatDoor
open Go Go.Sx
theorem slB : SlT Tryz.prog 32 5 1 1 [.int .u8 0] := ⟨by kernel_rfl, ⟨Tryz.t5, by kernel_rfl, by kernel_rfl, by kernel_rfl, .int .u8 0, by kernel_rfl, by kernel_rfl⟩, rfl, by decide⟩

theorem digit_spec (n k : Nat) (hn : n < 2 ^ 64) (hk : k < 10) (w : World) : CallsV Tryz.prog 125 #[.int .u64 n, .int .i64 k] w fun v w' => v = .int .u8 (B1.dig n k : Nat) ∧ w' = w := by
  refine bytes_digit.calls okay ?_
  unfold bytes_digit.W
  have h7 : IntKind.i64.wrap ((7 : Int) * k) = ((7 * k : Nat) : Int) := by rw [wi _ (by omega) (by omega)]; simp
  have hm : min (7 * k) 64 = 7 * k := by omega
  have hp : (2 : Nat) ^ (7 * k) = 128 ^ k := by rw [Nat.pow_mul]
  refine ⟨by rw [h7]; omega, by decide, ?_, rfl⟩
  rw [h7, Int.toNat_natCast, hm, show ((2 : Int) ^ (7 * k)) = ((128 ^ k : Nat) : Int) by rw [← hp]; simp, Int.fdiv_eq_ediv_of_nonneg _ (Int.natCast_nonneg _), ← Int.natCast_ediv,
    Int.tmod_eq_emod_of_nonneg (Int.natCast_nonneg _), show (128 : Int) = ((128 : Nat) : Int) from rfl, ← Int.natCast_emod, w8 _ (by omega) (by have := Nat.mod_lt (n / 128 ^ k) (show 0 < 128 by decide); omega)]
  rfl

def pre (m k : Nat) : List UInt8 := (List.range k).map fun j => (B1.dig m j + 128).toUInt8
theorem pre_succ (m k : Nat) : pre m (k + 1) = pre m k ++ [(B1.dig m k + 128).toUInt8] := by simp [pre, List.range_succ]
theorem pre_len (m k : Nat) : (pre m k).length = k := by simp [pre]

theorem appendB {w : World} {A : Option Addr} {c : Nat} {l : List UInt8} (h : OwnB w A c l) (b : UInt8) (hb : l.length + 1 ≤ 140737488355328) (e : TypeId) (ty : TypeId) :
    ∃ A' c' w', RunsTo Tryz.prog (Builtin.append_ #[32, 32] ty #[.slice A l.length c, .slice (some ⟨w.heap.size, 0, none⟩) 1 1]) (w.alloc (.cells #[u8 b] e)) (.slice A' (l.length + 1) c') w' ∧ OwnB w' A' c' (l ++ [b]) ∧ Grew A A' w w' ∧ A' ≠ none := by
  obtain ⟨A', c', w', hr, ho, hf, hs, hn⟩ := append_one (ty := ty) slB h (cs := [u8 b]) rfl (by simp [u8, Value.oneCell']) (e' := e) (by simp [maxLen]; omega) (by omega)
  exact ⟨A', c', w', hr, by unfold OwnB; simpa using ho, ⟨hf, hs⟩, hn⟩

theorem Uint_spec {w : World} {A : Option Addr} {c : Nat} {l : List UInt8} (h : OwnB w A c l) (m : Nat) (hm : m < 2 ^ 64) (hb : l.length + 10 ≤ 140737488355328) :
    CallsV Tryz.prog 63 #[.slice A l.length c, .int .u64 m] w fun v w' => ∃ A' c', v = .slice A' (l ++ B1.enc m).length c' ∧ OwnB w' A' c' (l ++ B1.enc m) ∧ Grew A A' w w' ∧ A' ≠ none := by
  refine bytes_Uint.calls okay ?_
  unfold bytes_Uint.W
  refine ⟨fun t k w1 => ∃ j : Nat, j ≤ 10 ∧ k = (j : Int) ∧ t = (B1.top m j : Nat) ∧ w = w1, fun t k _ => (10 - k).toNat, ⟨0, by omega, rfl, rfl, rfl⟩, ?_⟩
  rintro _ _ _ ⟨j, hj, rfl, rfl, rfl⟩
  refine brd (fun h10 => ?_) (fun h10 => ?_)
  · refine (digit_spec m j hm (by omega) _).same ⟨_, rfl, ?_⟩
    have hw : IntKind.i64.wrap ((j : Int) + 1) = ((j + 1 : Nat) : Int) := by rw [wi _ (by omega) (by omega)]; simp
    rw [hw]
    refine brd (fun h0 => ?_) (fun h0 => ?_)
    · exact ⟨⟨j + 1, by omega, rfl, by rw [B1.top, if_pos (by omega)], rfl⟩, by dsimp only; omega⟩
    · exact ⟨⟨j + 1, by omega, rfl, by rw [B1.top, if_neg (by omega)], rfl⟩, by dsimp only; omega⟩
  · obtain rfl : j = 10 := by omega
    have ht : B1.top m 10 ≤ 9 := B1.top_le m 10
    have henc : B1.enc m = pre m (B1.top m 10) ++ [(B1.dig m (B1.top m 10)).toUInt8] := B1.enc_top 10 m (Nat.lt_trans hm (by decide)) (by decide)
    refine ⟨fun A1 n1 c1 k w1 => ∃ j : Nat, j ≤ B1.top m 10 ∧ k = (j : Int) ∧ n1 = (l ++ pre m j).length ∧ OwnB w1 A1 c1 (l ++ pre m j) ∧ Grew A A1 w w1, fun _ _ _ k _ => (10 - k).toNat,
      ⟨0, by omega, rfl, by simp [pre], by simpa [pre] using h, .refl _ _⟩, ?_⟩
    rintro A1 _ c1 _ w1 ⟨j, hj, rfl, rfl, ho, hg⟩
    have hd := B1.dig_lt m j
    have hlen : (l ++ pre m j).length = l.length + j := by simp [pre_len]
    refine brd (fun hlt => ?_) (fun hlt => ?_)
    · refine (digit_spec m j hm (by omega) _).same ⟨_, rfl, ?_⟩
      have hv : IntKind.u8.wrap (((B1.dig m j : Nat) : Int) + 128) = ((B1.dig m j + 128 : Nat) : Int) := by rw [w8 _ (by omega) (by omega)]; simp
      rw [hv, toUInt8_int (by omega)]
      obtain ⟨A2, c2, w2, hr, ho2, hg2, _⟩ := appendB ho (B1.dig m j + 128).toUInt8 (by omega) 5 32
      have hw : IntKind.i64.wrap ((j : Int) + 1) = ((j + 1 : Nat) : Int) := by rw [wi _ (by omega) (by omega)]; simp
      refine ⟨A2, _, c2, w2, hr, ?_⟩
      rw [hw]
      refine ⟨⟨j + 1, by omega, rfl, by simp [pre_len]; omega, ?_, hg.trans hg2⟩, by dsimp only; omega⟩
      rw [pre_succ, ← List.append_assoc]; exact ho2
    · obtain rfl : j = B1.top m 10 := by omega
      refine (digit_spec m _ hm (by omega) _).same ⟨_, rfl, ?_⟩
      rw [toUInt8_int (by omega)]
      obtain ⟨A2, c2, w2, hr, ho2, hg2, hn⟩ := appendB ho (B1.dig m (B1.top m 10)).toUInt8 (by omega) 5 32
      refine ⟨A2, _, c2, w2, hr, A2, c2, ?_, ?_, hg.trans hg2, hn⟩
      · rw [henc]; simp [Nat.add_assoc]
      · rw [henc, ← List.append_assoc]; exact ho2
end Go.Proofs.YtaifphjenebgoaaGreatDoor
set_option linter.unusedVariables false
set_option maxRecDepth 100000
namespace Go.Proofs.YtaifphjenebgoaaGreatDoor
open Go Go.Sx
noncomputable def slices_ContainsFunc_string_string.W : Option Addr → Nat → Nat → Value → World → (Value → World → Prop) → Prop := fun (s_A : Option Addr) (s_n s_c : Nat) (f : Value) (w : World) (K :
 Value → World → Prop) => CallsV Tryz.prog 130 #[Value.slice s_A s_n s_c, f] w fun (v : Value) (w' : World) => ∃ (x : Int), v = Value.int IntKind.i64 x ∧ K (Value.bool (decide ((0 : Int) ≤
 x))) w'
theorem slices_ContainsFunc_string_string.calls (ok : Okay Tryz.prog) {s_A : Option Addr} {s_n : Nat} {s_c : Nat} {f : Value} {w : World} {K : Value → World → Prop} (h : slices_ContainsFunc_string_string.W s_A s_n s_c f w K) : CallsV Tryz.prog 82 #[.slice s_A s_n s_c, f] w K :=
  fnW_calls ok Tryz.func82 (an := (.named (.named .auto))) (args := [.slice s_A s_n s_c, f]) (Eq.mp (by kernel_rfl) h)
noncomputable def slices_ContainsFunc_api_Value_api_Value.W : Option Addr → Nat → Nat → Value → World → (Value → World → Prop) → Prop := fun (s_A : Option Addr) (s_n s_c : Nat) (f : Value) (w : World)
 (K : Value → World → Prop) => CallsV Tryz.prog 131 #[Value.slice s_A s_n s_c, f] w fun (v : Value) (w' : World) => ∃ (x : Int), v = Value.int IntKind.i64 x ∧ K (Value.bool (decide ((0 : Int)
 ≤ x))) w'
theorem slices_ContainsFunc_api_Value_api_Value.calls (ok : Okay Tryz.prog) {s_A : Option Addr} {s_n : Nat} {s_c : Nat} {f : Value} {w : World} {K : Value → World → Prop} (h : slices_ContainsFunc_api_Value_api_Value.W s_A s_n s_c f w K) : CallsV Tryz.prog 83 #[.slice s_A s_n s_c, f] w K :=
  fnW_calls ok Tryz.func83 (an := (.named (.named .auto))) (args := [.slice s_A s_n s_c, f]) (Eq.mp (by kernel_rfl) h)
noncomputable def slices_ContainsFunc_api_Cur_api_Cur.W : Option Addr → Nat → Nat → Value → World → (Value → World → Prop) → Prop := fun (s_A : Option Addr) (s_n s_c : Nat) (f : Value) (w : World) (K :
 Value → World → Prop) => CallsV Tryz.prog 132 #[Value.slice s_A s_n s_c, f] w fun (v : Value) (w' : World) => ∃ (x : Int), v = Value.int IntKind.i64 x ∧ K (Value.bool (decide ((0 : Int) ≤
 x))) w'
theorem slices_ContainsFunc_api_Cur_api_Cur.calls (ok : Okay Tryz.prog) {s_A : Option Addr} {s_n : Nat} {s_c : Nat} {f : Value} {w : World} {K : Value → World → Prop} (h : slices_ContainsFunc_api_Cur_api_Cur.W s_A s_n s_c f w K) : CallsV Tryz.prog 84 #[.slice s_A s_n s_c, f] w K :=
  fnW_calls ok Tryz.func84 (an := (.named (.named .auto))) (args := [.slice s_A s_n s_c, f]) (Eq.mp (by kernel_rfl) h)
noncomputable def slices_ContainsFunc_api_Sort_api_Sort.W : Option Addr → Nat → Nat → Value → World → (Value → World → Prop) → Prop := fun (s_A : Option Addr) (s_n s_c : Nat) (f : Value) (w : World) (K
 : Value → World → Prop) => CallsV Tryz.prog 133 #[Value.slice s_A s_n s_c, f] w fun (v : Value) (w' : World) => ∃ (x : Int), v = Value.int IntKind.i64 x ∧ K (Value.bool (decide ((0 : Int) ≤
 x))) w'
theorem slices_ContainsFunc_api_Sort_api_Sort.calls (ok : Okay Tryz.prog) {s_A : Option Addr} {s_n : Nat} {s_c : Nat} {f : Value} {w : World} {K : Value → World → Prop} (h : slices_ContainsFunc_api_Sort_api_Sort.W s_A s_n s_c f w K) : CallsV Tryz.prog 85 #[.slice s_A s_n s_c, f] w K :=
  fnW_calls ok Tryz.func85 (an := (.named (.named .auto))) (args := [.slice s_A s_n s_c, f]) (Eq.mp (by kernel_rfl) h)
noncomputable def slices_ContainsFunc_api_Acc_api_Acc.W : Option Addr → Nat → Nat → Value → World → (Value → World → Prop) → Prop := fun (s_A : Option Addr) (s_n s_c : Nat) (f : Value) (w : World) (K :
 Value → World → Prop) => CallsV Tryz.prog 134 #[Value.slice s_A s_n s_c, f] w fun (v : Value) (w' : World) => ∃ (x : Int), v = Value.int IntKind.i64 x ∧ K (Value.bool (decide ((0 : Int) ≤
 x))) w'
theorem slices_ContainsFunc_api_Acc_api_Acc.calls (ok : Okay Tryz.prog) {s_A : Option Addr} {s_n : Nat} {s_c : Nat} {f : Value} {w : World} {K : Value → World → Prop} (h : slices_ContainsFunc_api_Acc_api_Acc.W s_A s_n s_c f w K) : CallsV Tryz.prog 86 #[.slice s_A s_n s_c, f] w K :=
  fnW_calls ok Tryz.func86 (an := (.named (.named .auto))) (args := [.slice s_A s_n s_c, f]) (Eq.mp (by kernel_rfl) h)
noncomputable def slices_IndexFunc_string_string.W : Option Addr → Nat → Nat → Value → World → (Value → World → Prop) → Prop := fun (s_A : Option Addr) (s_n s_c : Nat) (f : Value) (w : World) (K :
 Value → World → Prop) => ∃ (I : Int → World → Prop) (μ : Int → World → Nat), I (0 : Int) w ∧ ∀ (x : Int) (w : World), I x w → bif decide (x < (↑s_n : Int)) then ∃ (ad : Addr), s_A =
 some ad ∧ ((0 : Int) ≤ x ∧ x < (↑s_n : Int)) ∧ ∃ (x_1 : ByteArray), World.cell? w (Addr.add ad (Int.toNat x * 1)) = some (Value.string x_1) ∧ ∃ (fid : Nat) (first captured : Array Value),
 f = Value.func (Fn.func fid) first captured ∧ bodied Tryz.prog fid = true ∧ CallsV Tryz.prog fid (List.toArray (Array.toList first ++ ([Value.string x_1] ++ Array.toList captured))) w fun (r :
 Value) (w' : World) => ∃ (x_2 : Bool), r = Value.bool x_2 ∧ bif x_2 then K (Value.int IntKind.i64 x) w' else I (IntKind.wrap IntKind.i64 (x + (1 : Int))) w' ∧ μ (IntKind.wrap IntKind.i64 (x + (1 :
 Int))) w' < μ x w else K (Value.int IntKind.i64 (-1 : Int)) w
theorem slices_IndexFunc_string_string.calls (ok : Okay Tryz.prog) {s_A : Option Addr} {s_n : Nat} {s_c : Nat} {f : Value} {w : World} {K : Value → World → Prop} (h : slices_IndexFunc_string_string.W s_A s_n s_c f w K) : CallsV Tryz.prog 130 #[.slice s_A s_n s_c, f] w K :=
  fnW_calls ok Tryz.func130 (an := (.named (.named (.seq .auto (.seq (.seq .auto (.block (.loop [(8, .one (.int .i64))] .auto))) .auto))))) (args := [.slice s_A s_n s_c, f]) (Eq.mp (by kernel_rfl) h)
noncomputable def slices_IndexFunc_api_Value_api_Value.W : Option Addr → Nat → Nat → Value → World → (Value → World → Prop) → Prop := fun (s_A : Option Addr) (s_n s_c : Nat) (f : Value) (w : World) (K
 : Value → World → Prop) => ∃ (I : Int → World → Prop) (μ : Int → World → Nat), I (0 : Int) w ∧ ∀ (x : Int) (w : World), I x w → bif decide (x < (↑s_n : Int)) then ∃ (ad : Addr), s_A =
 some ad ∧ ((0 : Int) ≤ x ∧ x < (↑s_n : Int)) ∧ ∃ (x_1 : Int), World.cell? w (Addr.add (Addr.add ad (Int.toNat x * 3)) 0) = some (Value.int IntKind.u8 x_1) ∧ ∃ (x_2 : Int), World.cell? w
 (Addr.add (Addr.add ad (Int.toNat x * 3)) 1) = some (Value.int IntKind.i64 x_2) ∧ ∃ (x_3 : ByteArray), World.cell? w (Addr.add (Addr.add ad (Int.toNat x * 3)) 2) = some (Value.string x_3)
 ∧ ∃ (fid : Nat) (first captured : Array Value), f = Value.func (Fn.func fid) first captured ∧ bodied Tryz.prog fid = true ∧ CallsV Tryz.prog fid (List.toArray (Array.toList first ++ ([Value.agg
 #[Value.int IntKind.u8 x_1, Value.int IntKind.i64 x_2, Value.string x_3]] ++ Array.toList captured))) w fun (r : Value) (w' : World) => ∃ (x_4 : Bool), r = Value.bool x_4 ∧ bif x_4 then K (Value.int
 IntKind.i64 x) w' else I (IntKind.wrap IntKind.i64 (x + (1 : Int))) w' ∧ μ (IntKind.wrap IntKind.i64 (x + (1 : Int))) w' < μ x w else K (Value.int IntKind.i64 (-1 : Int)) w
theorem slices_IndexFunc_api_Value_api_Value.calls (ok : Okay Tryz.prog) {s_A : Option Addr} {s_n : Nat} {s_c : Nat} {f : Value} {w : World} {K : Value → World → Prop} (h : slices_IndexFunc_api_Value_api_Value.W s_A s_n s_c f w K) : CallsV Tryz.prog 131 #[.slice s_A s_n s_c, f] w K :=
  fnW_calls ok Tryz.func131 (an := (.named (.named (.seq .auto (.seq (.seq .auto (.block (.loop [(8, .one (.int .i64))] .auto))) .auto))))) (args := [.slice s_A s_n s_c, f]) (Eq.mp (by kernel_rfl) h)
noncomputable def slices_IndexFunc_api_Cur_api_Cur.W : Option Addr → Nat → Nat → Value → World → (Value → World → Prop) → Prop := fun (s_A : Option Addr) (s_n s_c : Nat) (f : Value) (w : World) (K :
 Value → World → Prop) => ∃ (I : Int → World → Prop) (μ : Int → World → Nat), I (0 : Int) w ∧ ∀ (x : Int) (w : World), I x w → bif decide (x < (↑s_n : Int)) then ∃ (ad : Addr), s_A =
 some ad ∧ ((0 : Int) ≤ x ∧ x < (↑s_n : Int)) ∧ ∃ (x_1 : ByteArray), World.cell? w (Addr.add (Addr.add ad (Int.toNat x * 3)) 0) = some (Value.string x_1) ∧ ∃ (x_2 : Bool), World.cell? w
 (Addr.add (Addr.add ad (Int.toNat x * 3)) 1) = some (Value.bool x_2) ∧ ∃ (x_3 : Bool), World.cell? w (Addr.add (Addr.add ad (Int.toNat x * 3)) 2) = some (Value.bool x_3) ∧ ∃ (fid : Nat)
 (first captured : Array Value), f = Value.func (Fn.func fid) first captured ∧ bodied Tryz.prog fid = true ∧ CallsV Tryz.prog fid (List.toArray (Array.toList first ++ ([Value.agg #[Value.string
 x_1, Value.bool x_2, Value.bool x_3]] ++ Array.toList captured))) w fun (r : Value) (w' : World) => ∃ (x_4 : Bool), r = Value.bool x_4 ∧ bif x_4 then K (Value.int IntKind.i64 x) w' else I (IntKind.wrap
 IntKind.i64 (x + (1 : Int))) w' ∧ μ (IntKind.wrap IntKind.i64 (x + (1 : Int))) w' < μ x w else K (Value.int IntKind.i64 (-1 : Int)) w
theorem slices_IndexFunc_api_Cur_api_Cur.calls (ok : Okay Tryz.prog) {s_A : Option Addr} {s_n : Nat} {s_c : Nat} {f : Value} {w : World} {K : Value → World → Prop} (h : slices_IndexFunc_api_Cur_api_Cur.W s_A s_n s_c f w K) : CallsV Tryz.prog 132 #[.slice s_A s_n s_c, f] w K :=
  fnW_calls ok Tryz.func132 (an := (.named (.named (.seq .auto (.seq (.seq .auto (.block (.loop [(8, .one (.int .i64))] .auto))) .auto))))) (args := [.slice s_A s_n s_c, f]) (Eq.mp (by kernel_rfl) h)
noncomputable def slices_IndexFunc_api_Sort_api_Sort.W : Option Addr → Nat → Nat → Value → World → (Value → World → Prop) → Prop := fun (s_A : Option Addr) (s_n s_c : Nat) (f : Value) (w : World) (K :
 Value → World → Prop) => ∃ (I : Int → World → Prop) (μ : Int → World → Nat), I (0 : Int) w ∧ ∀ (x : Int) (w : World), I x w → bif decide (x < (↑s_n : Int)) then ∃ (ad : Addr), s_A =
 some ad ∧ ((0 : Int) ≤ x ∧ x < (↑s_n : Int)) ∧ ∃ (x_1 : Option Addr) (x_2 x_3 : Nat), World.cell? w (Addr.add (Addr.add ad (Int.toNat x * 3)) 0) = some (Value.slice x_1 x_2 x_3) ∧ ∃ (x_4
 : Int), World.cell? w (Addr.add (Addr.add ad (Int.toNat x * 3)) 1) = some (Value.int IntKind.i64 x_4) ∧ ∃ (x_5 : Bool), World.cell? w (Addr.add (Addr.add ad (Int.toNat x * 3)) 2) = some
 (Value.bool x_5) ∧ ∃ (fid : Nat) (first captured : Array Value), f = Value.func (Fn.func fid) first captured ∧ bodied Tryz.prog fid = true ∧ CallsV Tryz.prog fid (List.toArray (Array.toList first
 ++ ([Value.agg #[Value.slice x_1 x_2 x_3, Value.int IntKind.i64 x_4, Value.bool x_5]] ++ Array.toList captured))) w fun (r : Value) (w' : World) => ∃ (x_6 : Bool), r = Value.bool x_6 ∧ bif x_6 then K
 (Value.int IntKind.i64 x) w' else I (IntKind.wrap IntKind.i64 (x + (1 : Int))) w' ∧ μ (IntKind.wrap IntKind.i64 (x + (1 : Int))) w' < μ x w else K (Value.int IntKind.i64 (-1 : Int)) w
theorem slices_IndexFunc_api_Sort_api_Sort.calls (ok : Okay Tryz.prog) {s_A : Option Addr} {s_n : Nat} {s_c : Nat} {f : Value} {w : World} {K : Value → World → Prop} (h : slices_IndexFunc_api_Sort_api_Sort.W s_A s_n s_c f w K) : CallsV Tryz.prog 133 #[.slice s_A s_n s_c, f] w K :=
  fnW_calls ok Tryz.func133 (an := (.named (.named (.seq .auto (.seq (.seq .auto (.block (.loop [(8, .one (.int .i64))] .auto))) .auto))))) (args := [.slice s_A s_n s_c, f]) (Eq.mp (by kernel_rfl) h)
noncomputable def slices_IndexFunc_api_Acc_api_Acc.W : Option Addr → Nat → Nat → Value → World → (Value → World → Prop) → Prop := fun (s_A : Option Addr) (s_n s_c : Nat) (f : Value) (w : World) (K :
 Value → World → Prop) => ∃ (I : Int → World → Prop) (μ : Int → World → Nat), I (0 : Int) w ∧ ∀ (x : Int) (w : World), I x w → bif decide (x < (↑s_n : Int)) then ∃ (ad : Addr), s_A =
 some ad ∧ ((0 : Int) ≤ x ∧ x < (↑s_n : Int)) ∧ ∃ (x_1 : ByteArray), World.cell? w (Addr.add (Addr.add ad (Int.toNat x * 2)) 0) = some (Value.string x_1) ∧ ∃ (x_2 : Bool), World.cell? w
 (Addr.add (Addr.add ad (Int.toNat x * 2)) 1) = some (Value.bool x_2) ∧ ∃ (fid : Nat) (first captured : Array Value), f = Value.func (Fn.func fid) first captured ∧ bodied Tryz.prog fid =
 true ∧ CallsV Tryz.prog fid (List.toArray (Array.toList first ++ ([Value.agg #[Value.string x_1, Value.bool x_2]] ++ Array.toList captured))) w fun (r : Value) (w' : World) => ∃ (x_3 : Bool), r =
 Value.bool x_3 ∧ bif x_3 then K (Value.int IntKind.i64 x) w' else I (IntKind.wrap IntKind.i64 (x + (1 : Int))) w' ∧ μ (IntKind.wrap IntKind.i64 (x + (1 : Int))) w' < μ x w else K (Value.int IntKind.i64
 (-1 : Int)) w
theorem slices_IndexFunc_api_Acc_api_Acc.calls (ok : Okay Tryz.prog) {s_A : Option Addr} {s_n : Nat} {s_c : Nat} {f : Value} {w : World} {K : Value → World → Prop} (h : slices_IndexFunc_api_Acc_api_Acc.W s_A s_n s_c f w K) : CallsV Tryz.prog 134 #[.slice s_A s_n s_c, f] w K :=
  fnW_calls ok Tryz.func134 (an := (.named (.named (.seq .auto (.seq (.seq .auto (.block (.loop [(8, .one (.int .i64))] .auto))) .auto))))) (args := [.slice s_A s_n s_c, f]) (Eq.mp (by kernel_rfl) h)
noncomputable def code_parts_5.W : Option Addr → Nat → Nat → Int → Bool → Addr → World → (Value → World → Prop) → Prop := fun (s0_A : Option Addr) (s0_n s0_c : Nat) (s1 : Int) (s2 : Bool) (a1 : Addr)
 (w : World) (K : Value → World → Prop) => ∀ (g : Nat) (w' : World), Fresh w g w' [Value.slice s0_A s0_n s0_c, Value.int IntKind.i64 s1, Value.bool s2] 59 → ∃ (x : Option Addr) (x_1 x_2 : Nat),
 World.cell? w' (Addr.add (Addr.mk g 0 none) 0) = some (Value.slice x x_1 x_2) ∧ bif decide ((30 : Int) < (↑x_1 : Int)) then K (Value.bool true) w' else ∃ (x : Value),
 World.cell? w' a1 = some x ∧ ∃ (x_3 : Int), World.cell? w' (Addr.add (Addr.mk g 0 none) 1) = some (Value.int IntKind.i64 x_3) ∧ ∃ (fid : Nat) (first captured : Array Value), x =
 Value.func (Fn.func fid) first captured ∧ bodied Tryz.prog fid = true ∧ CallsV Tryz.prog fid (List.toArray (Array.toList first ++ ([Value.int IntKind.i64 x_3, Value.int IntKind.i64 (1 : Int),
 Value.int IntKind.i64 (60 : Int)] ++ Array.toList captured))) w' fun (r : Value) (w' : World) => ∃ (x : Bool), r = Value.bool x ∧ K (Value.bool !x) w'
theorem code_parts_5.calls (ok : Okay Tryz.prog) {s0_A : Option Addr} {s0_n : Nat} {s0_c : Nat} {s1 : Int} {s2 : Bool} {a1 : Addr} {w : World} {K : Value → World → Prop} (h : code_parts_5.W s0_A s0_n s0_c s1 s2 a1 w K) : CallsV Tryz.prog 79 #[.agg #[.slice s0_A s0_n s0_c, .int .i64 s1, .bool s2], .pointer (some a1)] w K :=
  fnW_calls ok Tryz.func79 (an := (.named (.named .auto))) (args := [.agg #[.slice s0_A s0_n s0_c, .int .i64 s1, .bool s2], .pointer (some a1)]) (Eq.mp (by kernel_rfl) h)
noncomputable def code_parts.W : Int → Int → Int → Option Addr → Nat → Nat → Option Addr → Nat → Nat → Option Addr → Nat → Nat → Option Addr → Nat → Nat → Option Addr → Nat → Nat → Option Addr → Nat →
 Nat → World → (Value → World → Prop) → Prop := fun (p0 p1 p2 : Int) (p3_A : Option Addr) (p3_n p3_c : Nat) (p4_A : Option Addr) (p4_n p4_c : Nat) (p5_A : Option Addr) (p5_n p5_c : Nat) (p6_A : Option
 Addr) (p6_n p6_c : Nat) (p7_A : Option Addr) (p7_n p7_c : Nat) (p8_A : Option Addr) (p8_n p8_c : Nat) (w : World) (K : Value → World → Prop) => ∀ (g : Nat) (w' : World), Fresh w g w' [Value.int
 IntKind.i64 p0, Value.int IntKind.i64 p1, Value.int IntKind.i64 p2, Value.slice p3_A p3_n p3_c, Value.slice p4_A p4_n p4_c, Value.slice p5_A p5_n p5_c, Value.slice p6_A p6_n p6_c, Value.slice p7_A p7_n
 p7_c, Value.slice p8_A p8_n p8_c] 29 → ∀ (g_1 : Nat) (w'_1 : World), Fresh w' g_1 w'_1 [Value.nilFunc] 100 → cellsL (Value.func (Fn.func 74) #[] #[]) = [Value.func (Fn.func 74) #[] #[]] ∧
 Value.oneCell' (Value.func (Fn.func 74) #[] #[]) = true ∧ stOK (Addr.mk g_1 0 none) 0 [Value.func (Fn.func 74) #[] #[]] w'_1 ∧ ∀ (w' : World), w' = setAll (Addr.mk g_1 0 none) 0
 [Value.func (Fn.func 74) #[] #[]] w'_1 → ∃ (x : Value), World.cell? w' (Addr.mk g_1 0 none) = some x ∧ ∃ (x_1 : Int), World.cell? w' (Addr.add (Addr.mk g 0 none) 0) = some
 (Value.int IntKind.i64 x_1) ∧ ∃ (fid : Nat) (first captured : Array Value), x = Value.func (Fn.func fid) first captured ∧ bodied Tryz.prog fid = true ∧ CallsV Tryz.prog fid (List.toArray
 (Array.toList first ++ ([Value.int IntKind.i64 x_1, Value.int IntKind.i64 (1 : Int), Value.int IntKind.i64 (1099511627776 : Int)] ++ Array.toList captured))) w' fun (r : Value) (w' : World) => ∃ (x :
 Bool), r = Value.bool x ∧ bif x then ∃ (x : Value), World.cell? w' (Addr.mk g_1 0 none) = some x ∧ ∃ (x_2 : Int), World.cell? w' (Addr.add (Addr.mk g 0 none) 1) = some
 (Value.int IntKind.i64 x_2) ∧ ∃ (fid : Nat) (first captured : Array Value), x = Value.func (Fn.func fid) first captured ∧ bodied Tryz.prog fid = true ∧ CallsV Tryz.prog fid (List.toArray
 (Array.toList first ++ ([Value.int IntKind.i64 x_2, Value.int IntKind.i64 (1 : Int), Value.int IntKind.i64 (250 : Int)] ++ Array.toList captured))) w' fun (r : Value) (w' : World) => ∃ (x : Bool), r =
 Value.bool x ∧ bif x then ∃ (x : Value), World.cell? w' (Addr.mk g_1 0 none) = some x ∧ ∃ (x_3 : Int), World.cell? w' (Addr.add (Addr.mk g 0 none) 2) = some (Value.int
 IntKind.i64 x_3) ∧ ∃ (fid : Nat) (first captured : Array Value), x = Value.func (Fn.func fid) first captured ∧ bodied Tryz.prog fid = true ∧ CallsV Tryz.prog fid (List.toArray (Array.toList first
 ++ ([Value.int IntKind.i64 x_3, Value.int IntKind.i64 (0 : Int), Value.int IntKind.i64 (1000 : Int)] ++ Array.toList captured))) w' fun (r : Value) (w' : World) => ∃ (x : Bool), r = Value.bool x ∧ bif
 x then ∃ (x : Option Addr) (x_4 x_5 : Nat), World.cell? w' (Addr.add (Addr.mk g 0 none) 3) = some (Value.slice x x_4 x_5) ∧ bif decide ((↑x_4 : Int) ≤ (200 : Int)) then ∃ (x :
 Option Addr) (x_6 x_7 : Nat), World.cell? w' (Addr.add (Addr.mk g 0 none) 4) = some (Value.slice x x_6 x_7) ∧ bif decide ((↑x_6 : Int) ≤ (1000 : Int)) then ∃ (x : Option Addr)
 (x_8 x_9 : Nat), World.cell? w' (Addr.add (Addr.mk g 0 none) 5) = some (Value.slice x x_8 x_9) ∧ bif decide ((↑x_8 : Int) ≤ (12 : Int)) then ∃ (x : Option Addr) (x_10 x_11 :
 Nat), World.cell? w' (Addr.add (Addr.mk g 0 none) 6) = some (Value.slice x x_10 x_11) ∧ bif decide ((↑x_10 : Int) ≤ (6 : Int)) then ∃ (x : Option Addr) (x_12 x_13 : Nat),
 World.cell? w' (Addr.add (Addr.mk g 0 none) 7) = some (Value.slice x x_12 x_13) ∧ bif decide ((↑x_12 : Int) ≤ (60 : Int)) then ∃ (x : Option Addr) (x_14 x_15 : Nat), World.cell?
 w' (Addr.add (Addr.mk g 0 none) 3) = some (Value.slice x x_14 x_15) ∧ CallsV Tryz.prog 82 #[Value.slice x x_14 x_15, Value.func (Fn.func 75) #[] #[]] w' fun (v : Value) (w' : World) => ∃
 (x : Bool), v = Value.bool x ∧ bif !x then ∃ (x : Option Addr) (x_16 x_17 : Nat), World.cell? w' (Addr.add (Addr.mk g 0 none) 4) = some (Value.slice x x_16 x_17) ∧ CallsV Tryz.prog 83
 #[Value.slice x x_16 x_17, Value.func (Fn.func 76) #[] #[]] w' fun (v : Value) (w' : World) => ∃ (x : Bool), v = Value.bool x ∧ bif !x then ∃ (x : Option Addr) (x_18 x_19 : Nat), World.cell? w'
 (Addr.add (Addr.mk g 0 none) 5) = some (Value.slice x x_18 x_19) ∧ CallsV Tryz.prog 84 #[Value.slice x x_18 x_19, Value.func (Fn.func 78) #[] #[]] w' fun (v : Value) (w' : World) => ∃ (x
 : Bool), v = Value.bool x ∧ bif !x then ∃ (x : Option Addr) (x_20 x_21 : Nat), World.cell? w' (Addr.add (Addr.mk g 0 none) 6) = some (Value.slice x x_20 x_21) ∧ CallsV Tryz.prog 85
 #[Value.slice x x_20 x_21, Value.func (Fn.func 79) #[] #[Value.pointer (some (Addr.mk g_1 0 none))]] w' fun (v : Value) (w' : World) => ∃ (x : Bool), v = Value.bool x ∧ bif !x then ∃ (x :
 Option Addr) (x_22 x_23 : Nat), World.cell? w' (Addr.add (Addr.mk g 0 none) 7) = some (Value.slice x x_22 x_23) ∧ CallsV Tryz.prog 86 #[Value.slice x x_22 x_23, Value.func (Fn.func 80)
 #[] #[]] w' fun (v : Value) (w' : World) => ∃ (x : Bool), v = Value.bool x ∧ K (Value.bool !x) w' else K (Value.bool false) w' else K (Value.bool false) w' else K (Value.bool false) w'
 else K (Value.bool false) w' else K (Value.bool false) w' else K (Value.bool false) w' else K (Value.bool false) w' else K (Value.bool false) w' else K (Value.bool false)
 w' else K (Value.bool false) w' else K (Value.bool false) w' else K (Value.bool false) w'
theorem code_parts.calls (ok : Okay Tryz.prog) {p0 : Int} {p1 : Int} {p2 : Int} {p3_A : Option Addr} {p3_n : Nat} {p3_c : Nat} {p4_A : Option Addr} {p4_n : Nat} {p4_c : Nat} {p5_A : Option Addr} {p5_n : Nat} {p5_c : Nat} {p6_A : Option Addr} {p6_n : Nat} {p6_c : Nat} {p7_A : Option Addr} {p7_n : Nat} {p7_c : Nat} {p8_A : Option Addr} {p8_n : Nat} {p8_c : Nat} {w : World} {K : Value → World → Prop} (h : code_parts.W p0 p1 p2 p3_A p3_n p3_c p4_A p4_n p4_c p5_A p5_n p5_c p6_A p6_n p6_c p7_A p7_n p7_c p8_A p8_n p8_c w K) : CallsV Tryz.prog 45 #[.agg #[.int .i64 p0, .int .i64 p1, .int .i64 p2, .slice p3_A p3_n p3_c, .slice p4_A p4_n p4_c, .slice p5_A p5_n p5_c, .slice p6_A p6_n p6_c, .slice p7_A p7_n p7_c, .slice p8_A p8_n p8_c]] w K :=
  fnW_calls ok Tryz.func45 (an := (.named (.named .auto))) (args := [.agg #[.int .i64 p0, .int .i64 p1, .int .i64 p2, .slice p3_A p3_n p3_c, .slice p4_A p4_n p4_c, .slice p5_A p5_n p5_c, .slice p6_A p6_n p6_c, .slice p7_A p7_n p7_c, .slice p8_A p8_n p8_c]]) (Eq.mp (by kernel_rfl) h)
end Go.Proofs.YtaifphjenebgoaaGreatDoor
set_option linter.unusedVariables false
set_option maxRecDepth 100000
namespace Go.Proofs.YtaifphjenebgoaaGreatDoor
open Go Go.Sx
noncomputable def code_Check.W : Int → Int → Int → Option Addr → Nat → Nat → Option Addr → Nat → Nat → Option Addr → Nat → Nat → Option Addr → Nat → Nat → Option Addr → Nat → Nat → Option Addr → Nat →
 Nat → World → (Value → World → Prop) → Prop := fun (p0 p1 p2 : Int) (p3_A : Option Addr) (p3_n p3_c : Nat) (p4_A : Option Addr) (p4_n p4_c : Nat) (p5_A : Option Addr) (p5_n p5_c : Nat) (p6_A : Option
 Addr) (p6_n p6_c : Nat) (p7_A : Option Addr) (p7_n p7_c : Nat) (p8_A : Option Addr) (p8_n p8_c : Nat) (w : World) (K : Value → World → Prop) => ∀ (g : Nat) (w' : World), Fresh w g w' [Value.int
 IntKind.i64 p0, Value.int IntKind.i64 p1, Value.int IntKind.i64 p2, Value.slice p3_A p3_n p3_c, Value.slice p4_A p4_n p4_c, Value.slice p5_A p5_n p5_c, Value.slice p6_A p6_n p6_c, Value.slice p7_A p7_n
 p7_c, Value.slice p8_A p8_n p8_c] 29 → ∃ (x : Int), World.cell? w' (Addr.add (Addr.mk g 0 none) 0) = some (Value.int IntKind.i64 x) ∧ ∃ (x_1 : Int), World.cell? w' (Addr.add (Addr.mk g 0
 none) 1) = some (Value.int IntKind.i64 x_1) ∧ ∃ (x_2 : Int), World.cell? w' (Addr.add (Addr.mk g 0 none) 2) = some (Value.int IntKind.i64 x_2) ∧ ∃ (x_3 : Option Addr) (x_4
 x_5 : Nat), World.cell? w' (Addr.add (Addr.mk g 0 none) 3) = some (Value.slice x_3 x_4 x_5) ∧ ∃ (x_6 : Option Addr) (x_7 x_8 : Nat), World.cell? w' (Addr.add (Addr.mk g 0 none) 4)
 = some (Value.slice x_6 x_7 x_8) ∧ ∃ (x_9 : Option Addr) (x_10 x_11 : Nat), World.cell? w' (Addr.add (Addr.mk g 0 none) 5) = some (Value.slice x_9 x_10 x_11) ∧ ∃ (x_12 : Option
 Addr) (x_13 x_14 : Nat), World.cell? w' (Addr.add (Addr.mk g 0 none) 6) = some (Value.slice x_12 x_13 x_14) ∧ ∃ (x_15 : Option Addr) (x_16 x_17 : Nat), World.cell? w' (Addr.add (Addr.mk g
 0 none) 7) = some (Value.slice x_15 x_16 x_17) ∧ ∃ (x_18 : Option Addr) (x_19 x_20 : Nat), World.cell? w' (Addr.add (Addr.mk g 0 none) 8) = some (Value.slice x_18 x_19 x_20)
 ∧ CallsV Tryz.prog 45 #[Value.agg #[Value.int IntKind.i64 x, Value.int IntKind.i64 x_1, Value.int IntKind.i64 x_2, Value.slice x_3 x_4 x_5, Value.slice x_6 x_7 x_8, Value.slice x_9 x_10 x_11,
 Value.slice x_12 x_13 x_14, Value.slice x_15 x_16 x_17, Value.slice x_18 x_19 x_20]] w' fun (v : Value) (w' : World) => ∃ (x : Bool), v = Value.bool x ∧ bif !x then K (Value.int IntKind.i64 (140 :
 Int)) w' else ∃ (x : Option Addr) (x_21 x_22 : Nat), World.cell? w' (Addr.add (Addr.mk g 0 none) 8) = some (Value.slice x x_21 x_22) ∧ bif decide ((↑x_21 : Int) < (1 : Int))
 then K (Value.int IntKind.i64 (140 : Int)) w' else ∃ (x : Option Addr) (x_23 x_24 : Nat), World.cell? w' (Addr.add (Addr.mk g 0 none) 8) = some (Value.slice x x_23 x_24) ∧ bif
 decide ((4000 : Int) < (↑x_23 : Int)) then K (Value.int IntKind.i64 (140 : Int)) w' else ∃ (x : Option Addr) (x_25 x_26 : Nat), World.cell? w' (Addr.add (Addr.mk g 0 none) 8) =
 some (Value.slice x x_25 x_26) ∧ ∃ (x_27 : Option Addr) (x_28 x_29 : Nat), World.cell? w' (Addr.add (Addr.mk g 0 none) 8) = some (Value.slice x_27 x_28 x_29) ∧ ∃ (ad : Addr), x =
 some ad ∧ ((0 : Int) ≤ IntKind.wrap IntKind.i64 ((↑x_28 : Int) - (1 : Int)) ∧ IntKind.wrap IntKind.i64 ((↑x_28 : Int) - (1 : Int)) < (↑x_25 : Int)) ∧ ∃ (x : Int), World.cell? w' (Addr.add
 (Addr.add ad (Int.toNat (IntKind.wrap IntKind.i64 ((↑x_28 : Int) - (1 : Int))) * 5)) 0) = some (Value.int IntKind.u8 x) ∧ bif !decide (x = (35 : Int)) then K (Value.int IntKind.i64
 (140 : Int)) w' else ∃ (x : Option Addr) (x_30 x_31 : Nat), World.cell? w' (Addr.add (Addr.mk g 0 none) 8) = some (Value.slice x x_30 x_31) ∧ ∃ (I : Int → World → Prop) (μ : Int → World →
 Nat), I (0 : Int) w' ∧ ∀ (x_32 : Int) (w : World), I x_32 w → bif decide (x_32 < (↑x_30 : Int)) then ∃ (ad : Addr), x = some ad ∧ ((0 : Int) ≤ x_32 ∧ x_32 < (↑x_30 : Int)) ∧ ∃ (x :
 Int), World.cell? w (Addr.add (Addr.add ad (Int.toNat x_32 * 5)) 0) = some (Value.int IntKind.u8 x) ∧ ∃ (x_33 : Int), World.cell? w (Addr.add (Addr.add ad (Int.toNat x_32 * 5)) 1) = some
 (Value.int IntKind.i64 x_33) ∧ ∃ (x_34 : Int), World.cell? w (Addr.add (Addr.add ad (Int.toNat x_32 * 5)) 2) = some (Value.int IntKind.i64 x_34) ∧ ∃ (x_35 : Int), World.cell? w (Addr.add
 (Addr.add ad (Int.toNat x_32 * 5)) 3) = some (Value.int IntKind.i64 x_35) ∧ ∃ (x_36 : Int), World.cell? w (Addr.add (Addr.add ad (Int.toNat x_32 * 5)) 4) = some (Value.int IntKind.i64
 x_36) ∧ ∀ (g_1 : Nat) (w' : World), Fresh w g_1 w' [Value.int IntKind.u8 (0 : Int), Value.int IntKind.i64 (0 : Int), Value.int IntKind.i64 (0 : Int), Value.int IntKind.i64 (0 : Int), Value.int
 IntKind.i64 (0 : Int)] 46 → stOK (Addr.mk g_1 0 none) 0 [Value.int IntKind.u8 x, Value.int IntKind.i64 x_33, Value.int IntKind.i64 x_34, Value.int IntKind.i64 x_35, Value.int IntKind.i64 x_36]
 w' ∧ ∀ (w'_1 : World), w'_1 = setAll (Addr.mk g_1 0 none) 0 [Value.int IntKind.u8 x, Value.int IntKind.i64 x_33, Value.int IntKind.i64 x_34, Value.int IntKind.i64 x_35, Value.int IntKind.i64
 x_36] w' → ∃ (x : Int), World.cell? w'_1 (Addr.add (Addr.mk g_1 0 none) 0) = some (Value.int IntKind.u8 x) ∧ CallsV Tryz.prog 46 #[Value.int IntKind.u8 x] w'_1 fun (v : Value) (w' :
 World) => ∃ (x : ByteArray), v = Value.string x ∧ bif ByteArray.toList x == ByteArray.toList (ByteArray.mk #[]) then K (Value.int IntKind.i64 (140 : Int)) w' else ∃ (x_37 : Int), World.cell? w'
 (Addr.add (Addr.mk g_1 0 none) 1) = some (Value.int IntKind.i64 x_37) ∧ ∃ (x_38 : Int), World.cell? w' (Addr.add (Addr.mk g_1 0 none) 2) = some (Value.int IntKind.i64 x_38)
 ∧ ∃ (x_39 : Int), World.cell? w' (Addr.add (Addr.mk g_1 0 none) 3) = some (Value.int IntKind.i64 x_39) ∧ ∃ (x_40 : Int), World.cell? w' (Addr.add (Addr.mk g_1 0 none) 4) =
 some (Value.int IntKind.i64 x_40) ∧ ∃ (I_1 : Int → World → Prop) (μ_1 : Int → World → Nat), I_1 (0 : Int) w' ∧ ∀ (x_41 : Int) (w_1 : World), I_1 x_41 w_1 → bif decide (x_41 < (4 :
 Int)) then ((0 : Int) ≤ x_41 ∧ x_41 < (↑4 : Int)) ∧ bif decide (x_41 = (↑0 : Int)) then ∃ (S : World → Prop), S (World.drew w_1) ∧ ∃ (x_42 : Int), (∀ (u : World), S u → World.cell? u
 (Addr.add (Addr.mk g 0 none) 0) = some (Value.int IntKind.i64 x_42)) ∧ ∃ (x_43 : Int), (∀ (u : World), S u → World.cell? u (Addr.add (Addr.mk g 0 none) 1) = some (Value.int
 IntKind.i64 x_43)) ∧ ∃ (x_44 : Int), (∀ (u : World), S u → World.cell? u (Addr.add (Addr.mk g 0 none) 2) = some (Value.int IntKind.i64 x_44)) ∧ ∃ (x_45 : Option Addr) (x_46 x_47 : Nat),
 (∀ (u : World), S u → World.cell? u (Addr.add (Addr.mk g 0 none) 3) = some (Value.slice x_45 x_46 x_47)) ∧ ∃ (x_48 : Option Addr) (x_49 x_50 : Nat), (∀ (u : World), S u → World.cell? u
 (Addr.add (Addr.mk g 0 none) 4) = some (Value.slice x_48 x_49 x_50)) ∧ ∃ (x_51 : Option Addr) (x_52 x_53 : Nat), (∀ (u : World), S u → World.cell? u (Addr.add (Addr.mk g 0 none) 5)
 = some (Value.slice x_51 x_52 x_53)) ∧ ∃ (x_54 : Option Addr) (x_55 x_56 : Nat), (∀ (u : World), S u → World.cell? u (Addr.add (Addr.mk g 0 none) 6) = some (Value.slice x_54 x_55
 x_56)) ∧ ∃ (x_57 : Option Addr) (x_58 x_59 : Nat), (∀ (u : World), S u → World.cell? u (Addr.add (Addr.mk g 0 none) 7) = some (Value.slice x_57 x_58 x_59)) ∧ ∃ (x_60 : Option Addr) (x_61
 x_62 : Nat), (∀ (u : World), S u → World.cell? u (Addr.add (Addr.mk g 0 none) 8) = some (Value.slice x_60 x_61 x_62)) ∧ ∃ (b : UInt8), ((0 : Int) ≤ x_41 ∧ x[Int.toNat x_41]? = some
 b) ∧ CallsV Tryz.prog 47 #[Value.agg #[Value.int IntKind.i64 x_42, Value.int IntKind.i64 x_43, Value.int IntKind.i64 x_44, Value.slice x_45 x_46 x_47, Value.slice x_48 x_49 x_50, Value.slice x_51 x_52
 x_53, Value.slice x_54 x_55 x_56, Value.slice x_57 x_58 x_59, Value.slice x_60 x_61 x_62], Value.int IntKind.i64 x_32, Value.int IntKind.u8 (↑(UInt8.toNat b) : Int), Value.int IntKind.i64 x_37]
 (World.drew w_1) fun (v : Value) (w' : World) => ∃ (x : Bool), v = Value.bool x ∧ bif !x then K (Value.int IntKind.i64 (140 : Int)) w' else I_1 (IntKind.wrap IntKind.i64 (x_41 + (1 : Int))) w' ∧ μ_1
 (IntKind.wrap IntKind.i64 (x_41 + (1 : Int))) w' < μ_1 x_41 w_1 else bif decide (x_41 = (↑1 : Int)) then ∃ (S : World → Prop), S (World.drew w_1) ∧ ∃ (x_42 : Int), (∀ (u : World), S u →
 World.cell? u (Addr.add (Addr.mk g 0 none) 0) = some (Value.int IntKind.i64 x_42)) ∧ ∃ (x_43 : Int), (∀ (u : World), S u → World.cell? u (Addr.add (Addr.mk g 0 none) 1) =
 some (Value.int IntKind.i64 x_43)) ∧ ∃ (x_44 : Int), (∀ (u : World), S u → World.cell? u (Addr.add (Addr.mk g 0 none) 2) = some (Value.int IntKind.i64 x_44)) ∧ ∃ (x_45 : Option
 Addr) (x_46 x_47 : Nat), (∀ (u : World), S u → World.cell? u (Addr.add (Addr.mk g 0 none) 3) = some (Value.slice x_45 x_46 x_47)) ∧ ∃ (x_48 : Option Addr) (x_49 x_50 : Nat), (∀ (u :
 World), S u → World.cell? u (Addr.add (Addr.mk g 0 none) 4) = some (Value.slice x_48 x_49 x_50)) ∧ ∃ (x_51 : Option Addr) (x_52 x_53 : Nat), (∀ (u : World), S u → World.cell? u (Addr.add
 (Addr.mk g 0 none) 5) = some (Value.slice x_51 x_52 x_53)) ∧ ∃ (x_54 : Option Addr) (x_55 x_56 : Nat), (∀ (u : World), S u → World.cell? u (Addr.add (Addr.mk g 0 none) 6) =
 some (Value.slice x_54 x_55 x_56)) ∧ ∃ (x_57 : Option Addr) (x_58 x_59 : Nat), (∀ (u : World), S u → World.cell? u (Addr.add (Addr.mk g 0 none) 7) = some (Value.slice x_57 x_58
 x_59)) ∧ ∃ (x_60 : Option Addr) (x_61 x_62 : Nat), (∀ (u : World), S u → World.cell? u (Addr.add (Addr.mk g 0 none) 8) = some (Value.slice x_60 x_61 x_62)) ∧ ∃ (b : UInt8), ((0 : Int) ≤
 x_41 ∧ x[Int.toNat x_41]? = some b) ∧ CallsV Tryz.prog 47 #[Value.agg #[Value.int IntKind.i64 x_42, Value.int IntKind.i64 x_43, Value.int IntKind.i64 x_44, Value.slice x_45 x_46 x_47,
 Value.slice x_48 x_49 x_50, Value.slice x_51 x_52 x_53, Value.slice x_54 x_55 x_56, Value.slice x_57 x_58 x_59, Value.slice x_60 x_61 x_62], Value.int IntKind.i64 x_32, Value.int IntKind.u8
 (↑(UInt8.toNat b) : Int), Value.int IntKind.i64 x_38] (World.drew w_1) fun (v : Value) (w' : World) => ∃ (x : Bool), v = Value.bool x ∧ bif !x then K (Value.int IntKind.i64 (140 : Int)) w' else I_1
 (IntKind.wrap IntKind.i64 (x_41 + (1 : Int))) w' ∧ μ_1 (IntKind.wrap IntKind.i64 (x_41 + (1 : Int))) w' < μ_1 x_41 w_1 else bif decide (x_41 = (↑2 : Int)) then ∃ (S : World → Prop), S
 (World.drew w_1) ∧ ∃ (x_42 : Int), (∀ (u : World), S u → World.cell? u (Addr.add (Addr.mk g 0 none) 0) = some (Value.int IntKind.i64 x_42)) ∧ ∃ (x_43 : Int), (∀ (u : World), S u →
 World.cell? u (Addr.add (Addr.mk g 0 none) 1) = some (Value.int IntKind.i64 x_43)) ∧ ∃ (x_44 : Int), (∀ (u : World), S u → World.cell? u (Addr.add (Addr.mk g 0 none) 2) =
 some (Value.int IntKind.i64 x_44)) ∧ ∃ (x_45 : Option Addr) (x_46 x_47 : Nat), (∀ (u : World), S u → World.cell? u (Addr.add (Addr.mk g 0 none) 3) = some (Value.slice x_45 x_46
 x_47)) ∧ ∃ (x_48 : Option Addr) (x_49 x_50 : Nat), (∀ (u : World), S u → World.cell? u (Addr.add (Addr.mk g 0 none) 4) = some (Value.slice x_48 x_49 x_50)) ∧ ∃ (x_51 : Option Addr) (x_52
 x_53 : Nat), (∀ (u : World), S u → World.cell? u (Addr.add (Addr.mk g 0 none) 5) = some (Value.slice x_51 x_52 x_53)) ∧ ∃ (x_54 : Option Addr) (x_55 x_56 : Nat), (∀ (u : World), S u →
 World.cell? u (Addr.add (Addr.mk g 0 none) 6) = some (Value.slice x_54 x_55 x_56)) ∧ ∃ (x_57 : Option Addr) (x_58 x_59 : Nat), (∀ (u : World), S u → World.cell? u (Addr.add (Addr.mk g 0
 none) 7) = some (Value.slice x_57 x_58 x_59)) ∧ ∃ (x_60 : Option Addr) (x_61 x_62 : Nat), (∀ (u : World), S u → World.cell? u (Addr.add (Addr.mk g 0 none) 8) = some
 (Value.slice x_60 x_61 x_62)) ∧ ∃ (b : UInt8), ((0 : Int) ≤ x_41 ∧ x[Int.toNat x_41]? = some b) ∧ CallsV Tryz.prog 47 #[Value.agg #[Value.int IntKind.i64 x_42, Value.int IntKind.i64 x_43,
 Value.int IntKind.i64 x_44, Value.slice x_45 x_46 x_47, Value.slice x_48 x_49 x_50, Value.slice x_51 x_52 x_53, Value.slice x_54 x_55 x_56, Value.slice x_57 x_58 x_59, Value.slice x_60 x_61 x_62],
 Value.int IntKind.i64 x_32, Value.int IntKind.u8 (↑(UInt8.toNat b) : Int), Value.int IntKind.i64 x_39] (World.drew w_1) fun (v : Value) (w' : World) => ∃ (x : Bool), v = Value.bool x ∧ bif !x then K
 (Value.int IntKind.i64 (140 : Int)) w' else I_1 (IntKind.wrap IntKind.i64 (x_41 + (1 : Int))) w' ∧ μ_1 (IntKind.wrap IntKind.i64 (x_41 + (1 : Int))) w' < μ_1 x_41 w_1 else bif decide (x_41 =
 (↑3 : Int)) then ∃ (S : World → Prop), S (World.drew w_1) ∧ ∃ (x_42 : Int), (∀ (u : World), S u → World.cell? u (Addr.add (Addr.mk g 0 none) 0) = some (Value.int IntKind.i64 x_42)) ∧ ∃
 (x_43 : Int), (∀ (u : World), S u → World.cell? u (Addr.add (Addr.mk g 0 none) 1) = some (Value.int IntKind.i64 x_43)) ∧ ∃ (x_44 : Int), (∀ (u : World), S u → World.cell? u (Addr.add
 (Addr.mk g 0 none) 2) = some (Value.int IntKind.i64 x_44)) ∧ ∃ (x_45 : Option Addr) (x_46 x_47 : Nat), (∀ (u : World), S u → World.cell? u (Addr.add (Addr.mk g 0 none) 3) =
 some (Value.slice x_45 x_46 x_47)) ∧ ∃ (x_48 : Option Addr) (x_49 x_50 : Nat), (∀ (u : World), S u → World.cell? u (Addr.add (Addr.mk g 0 none) 4) = some (Value.slice x_48 x_49
 x_50)) ∧ ∃ (x_51 : Option Addr) (x_52 x_53 : Nat), (∀ (u : World), S u → World.cell? u (Addr.add (Addr.mk g 0 none) 5) = some (Value.slice x_51 x_52 x_53)) ∧ ∃ (x_54 : Option Addr) (x_55
 x_56 : Nat), (∀ (u : World), S u → World.cell? u (Addr.add (Addr.mk g 0 none) 6) = some (Value.slice x_54 x_55 x_56)) ∧ ∃ (x_57 : Option Addr) (x_58 x_59 : Nat), (∀ (u : World), S u →
 World.cell? u (Addr.add (Addr.mk g 0 none) 7) = some (Value.slice x_57 x_58 x_59)) ∧ ∃ (x_60 : Option Addr) (x_61 x_62 : Nat), (∀ (u : World), S u → World.cell? u (Addr.add (Addr.mk g 0
 none) 8) = some (Value.slice x_60 x_61 x_62)) ∧ ∃ (b : UInt8), ((0 : Int) ≤ x_41 ∧ x[Int.toNat x_41]? = some b) ∧ CallsV Tryz.prog 47 #[Value.agg #[Value.int IntKind.i64 x_42,
 Value.int IntKind.i64 x_43, Value.int IntKind.i64 x_44, Value.slice x_45 x_46 x_47, Value.slice x_48 x_49 x_50, Value.slice x_51 x_52 x_53, Value.slice x_54 x_55 x_56, Value.slice x_57 x_58 x_59,
 Value.slice x_60 x_61 x_62], Value.int IntKind.i64 x_32, Value.int IntKind.u8 (↑(UInt8.toNat b) : Int), Value.int IntKind.i64 x_40] (World.drew w_1) fun (v : Value) (w' : World) => ∃ (x : Bool), v =
 Value.bool x ∧ bif !x then K (Value.int IntKind.i64 (140 : Int)) w' else I_1 (IntKind.wrap IntKind.i64 (x_41 + (1 : Int))) w' ∧ μ_1 (IntKind.wrap IntKind.i64 (x_41 + (1 : Int))) w' < μ_1 x_41 w_1 else
 False else ∃ (x : Int), World.cell? w_1 (Addr.add (Addr.mk g 0 none) 0) = some (Value.int IntKind.i64 x) ∧ ∃ (x_42 : Int), World.cell? w_1 (Addr.add (Addr.mk g 0 none) 1) =
 some (Value.int IntKind.i64 x_42) ∧ ∃ (x_43 : Int), World.cell? w_1 (Addr.add (Addr.mk g 0 none) 2) = some (Value.int IntKind.i64 x_43) ∧ ∃ (x_44 : Option Addr) (x_45 x_46 : Nat),
 World.cell? w_1 (Addr.add (Addr.mk g 0 none) 3) = some (Value.slice x_44 x_45 x_46) ∧ ∃ (x_47 : Option Addr) (x_48 x_49 : Nat), World.cell? w_1 (Addr.add (Addr.mk g 0 none) 4) =
 some (Value.slice x_47 x_48 x_49) ∧ ∃ (x_50 : Option Addr) (x_51 x_52 : Nat), World.cell? w_1 (Addr.add (Addr.mk g 0 none) 5) = some (Value.slice x_50 x_51 x_52) ∧ ∃ (x_53 : Option
 Addr) (x_54 x_55 : Nat), World.cell? w_1 (Addr.add (Addr.mk g 0 none) 6) = some (Value.slice x_53 x_54 x_55) ∧ ∃ (x_56 : Option Addr) (x_57 x_58 : Nat), World.cell? w_1 (Addr.add (Addr.mk
 g 0 none) 7) = some (Value.slice x_56 x_57 x_58) ∧ ∃ (x_59 : Option Addr) (x_60 x_61 : Nat), World.cell? w_1 (Addr.add (Addr.mk g 0 none) 8) = some (Value.slice x_59 x_60
 x_61) ∧ CallsV Tryz.prog 48 #[Value.agg #[Value.int IntKind.i64 x, Value.int IntKind.i64 x_42, Value.int IntKind.i64 x_43, Value.slice x_44 x_45 x_46, Value.slice x_47 x_48 x_49, Value.slice x_50 x_51
 x_52, Value.slice x_53 x_54 x_55, Value.slice x_56 x_57 x_58, Value.slice x_59 x_60 x_61], Value.int IntKind.i64 x_32] w_1 fun (v : Value) (w' : World) => ∃ (x : Bool), v = Value.bool x ∧ bif !x then K
 (Value.int IntKind.i64 (140 : Int)) w' else I (IntKind.wrap IntKind.i64 (x_32 + (1 : Int))) w' ∧ μ (IntKind.wrap IntKind.i64 (x_32 + (1 : Int))) w' < μ x_32 w else K (Value.int IntKind.i64 (0 : Int)) w
theorem code_Check.calls (ok : Okay Tryz.prog) {p0 : Int} {p1 : Int} {p2 : Int} {p3_A : Option Addr} {p3_n : Nat} {p3_c : Nat} {p4_A : Option Addr} {p4_n : Nat} {p4_c : Nat} {p5_A : Option Addr} {p5_n : Nat} {p5_c : Nat} {p6_A : Option Addr} {p6_n : Nat} {p6_c : Nat} {p7_A : Option Addr} {p7_n : Nat} {p7_c : Nat} {p8_A : Option Addr} {p8_n : Nat} {p8_c : Nat} {w : World} {K : Value → World → Prop} (h : code_Check.W p0 p1 p2 p3_A p3_n p3_c p4_A p4_n p4_c p5_A p5_n p5_c p6_A p6_n p6_c p7_A p7_n p7_c p8_A p8_n p8_c w K) : CallsV Tryz.prog 12 #[.agg #[.int .i64 p0, .int .i64 p1, .int .i64 p2, .slice p3_A p3_n p3_c, .slice p4_A p4_n p4_c, .slice p5_A p5_n p5_c, .slice p6_A p6_n p6_c, .slice p7_A p7_n p7_c, .slice p8_A p8_n p8_c]] w K :=
  fnW_calls ok Tryz.func12 (an := (.named (.seq .auto (.seq .auto (.seq (.seq .auto (.block (.loop [(38, .one (.int .i64))] (.seq .auto (.seq .auto (.seq (.block (.seq .auto (.seq .auto (.seq .auto (.seq (.seq .auto (.block (.loop [(57, .one (.int .i64))] .auto))) .auto))))) .auto)))))) .auto))))) (args := [.agg #[.int .i64 p0, .int .i64 p1, .int .i64 p2, .slice p3_A p3_n p3_c, .slice p4_A p4_n p4_c, .slice p5_A p5_n p5_c, .slice p6_A p6_n p6_c, .slice p7_A p7_n p7_c, .slice p8_A p8_n p8_c]]) (Eq.mp (by kernel_rfl) h)
noncomputable def code_parts_1.W : Int → Int → Int → World → (Value → World → Prop) → Prop := fun (n low high : Int) (w : World) (K : Value → World → Prop) => bif decide (low ≤ n) then K
 (Value.bool (decide (n ≤ high))) w else K (Value.bool false) w
theorem code_parts_1.calls (ok : Okay Tryz.prog) {n : Int} {low : Int} {high : Int} {w : World} {K : Value → World → Prop} (h : code_parts_1.W n low high w K) : CallsV Tryz.prog 74 #[.int .i64 n, .int .i64 low, .int .i64 high] w K :=
  fnW_calls ok Tryz.func74 (an := (.named .auto)) (args := [.int .i64 n, .int .i64 low, .int .i64 high]) (Eq.mp (by kernel_rfl) h)
noncomputable def code_parts_2.W : ByteArray → World → (Value → World → Prop) → Prop := fun (s : ByteArray) (w : World) (K : Value → World → Prop) => K (Value.bool (decide ((200 : Int) <
 (↑(ByteArray.size s) : Int)))) w
theorem code_parts_2.calls (ok : Okay Tryz.prog) {s : ByteArray} {w : World} {K : Value → World → Prop} (h : code_parts_2.W s w K) : CallsV Tryz.prog 75 #[.string s] w K :=
  fnW_calls ok Tryz.func75 (an := (.named .auto)) (args := [.string s]) (Eq.mp (by kernel_rfl) h)
noncomputable def code_parts_3.W : Int → Int → ByteArray → World → (Value → World → Prop) → Prop := fun (v0 v1 : Int) (v2 : ByteArray) (w : World) (K : Value → World → Prop) => ∀ (g : Nat) (w' :
 World), Fresh w g w' [Value.int IntKind.u8 v0, Value.int IntKind.i64 v1, Value.string v2] 54 → ∃ (x : Int), World.cell? w' (Addr.add (Addr.mk g 0 none) 0) = some (Value.int IntKind.u8 x)
 ∧ ∃ (x_1 : Int), World.cell? w' (Addr.add (Addr.mk g 0 none) 1) = some (Value.int IntKind.i64 x_1) ∧ ∃ (x_2 : ByteArray), World.cell? w' (Addr.add (Addr.mk g 0 none) 2) =
 some (Value.string x_2) ∧ CallsV Tryz.prog 77 #[Value.agg #[Value.int IntKind.u8 x, Value.int IntKind.i64 x_1, Value.string x_2]] w' fun (v : Value) (w' : World) => ∃ (x : Bool), v = Value.bool
 x ∧ K (Value.bool !x) w'
theorem code_parts_3.calls (ok : Okay Tryz.prog) {v0 : Int} {v1 : Int} {v2 : ByteArray} {w : World} {K : Value → World → Prop} (h : code_parts_3.W v0 v1 v2 w K) : CallsV Tryz.prog 76 #[.agg #[.int .u8 v0, .int .i64 v1, .string v2]] w K :=
  fnW_calls ok Tryz.func76 (an := (.named .auto)) (args := [.agg #[.int .u8 v0, .int .i64 v1, .string v2]]) (Eq.mp (by kernel_rfl) h)
noncomputable def code_parts_4.W : ByteArray → Bool → Bool → World → (Value → World → Prop) → Prop := fun (c0 : ByteArray) (c1 c2 : Bool) (w : World) (K : Value → World → Prop) => ∀ (g : Nat) (w' :
 World), Fresh w g w' [Value.string c0, Value.bool c1, Value.bool c2] 56 → ∃ (x : ByteArray), World.cell? w' (Addr.add (Addr.mk g 0 none) 0) = some (Value.string x) ∧ bif ByteArray.toList
 x == ByteArray.toList (ByteArray.mk #[]) then K (Value.bool true) w' else ∃ (x : ByteArray), World.cell? w' (Addr.add (Addr.mk g 0 none) 0) = some (Value.string x) ∧ bif
 decide ((200 : Int) < (↑(ByteArray.size x) : Int)) then K (Value.bool true) w' else ∃ (x : Bool), World.cell? w' (Addr.add (Addr.mk g 0 none) 1) = some (Value.bool x) ∧ bif
 x then ∃ (x : Bool), World.cell? w' (Addr.add (Addr.mk g 0 none) 2) = some (Value.bool x) ∧ K (Value.bool x) w' else K (Value.bool false) w'
theorem code_parts_4.calls (ok : Okay Tryz.prog) {c0 : ByteArray} {c1 : Bool} {c2 : Bool} {w : World} {K : Value → World → Prop} (h : code_parts_4.W c0 c1 c2 w K) : CallsV Tryz.prog 78 #[.agg #[.string c0, .bool c1, .bool c2]] w K :=
  fnW_calls ok Tryz.func78 (an := (.named .auto)) (args := [.agg #[.string c0, .bool c1, .bool c2]]) (Eq.mp (by kernel_rfl) h)
noncomputable def code_parts_6.W : ByteArray → Bool → World → (Value → World → Prop) → Prop := fun (t0 : ByteArray) (t1 : Bool) (w : World) (K : Value → World → Prop) => ∀ (g : Nat) (w' : World), Fresh
 w g w' [Value.string t0, Value.bool t1] 61 → ∃ (x : ByteArray), World.cell? w' (Addr.add (Addr.mk g 0 none) 0) = some (Value.string x) ∧ ∃ (x_1 : Bool), World.cell? w' (Addr.add (Addr.mk
 g 0 none) 1) = some (Value.bool x_1) ∧ CallsV Tryz.prog 81 #[Value.string x, Value.bool x_1] w' fun (v : Value) (w' : World) => ∃ (x : Option Addr) (x_2 : Int), v = Value.tuple
 #[Value.pointer x, Value.int IntKind.i64 x_2] ∧ K (Value.bool !decide (x_2 = (0 : Int))) w'
theorem code_parts_6.calls (ok : Okay Tryz.prog) {t0 : ByteArray} {t1 : Bool} {w : World} {K : Value → World → Prop} (h : code_parts_6.W t0 t1 w K) : CallsV Tryz.prog 80 #[.agg #[.string t0, .bool t1]] w K :=
  fnW_calls ok Tryz.func80 (an := (.named .auto)) (args := [.agg #[.string t0, .bool t1]]) (Eq.mp (by kernel_rfl) h)
noncomputable def code_shape.W : Int → World → (Value → World → Prop) → Prop := fun (o : Int) (w : World) (K : Value → World → Prop) => ∃ (x : Option Nat) (w' : World), RunsTo Tryz.prog (Instr.makeMap
 132 none) w (Value.map x) w' ∧ ∃ (w'_1 : World), RunsTo Tryz.prog (Instr.mapUpdate 132 (Value.map x) (Value.int IntKind.u8 (1 : Int)) (Value.agg #[Value.string (ByteArray.mk #[(114 : UInt8),
 (107 : UInt8), (45 : UInt8), (45 : UInt8)])])) w' () w'_1 ∧ ∃ (w' : World), RunsTo Tryz.prog (Instr.mapUpdate 132 (Value.map x) (Value.int IntKind.u8 (2 : Int)) (Value.agg #[Value.string (ByteArray.mk
 #[(114 : UInt8), (98 : UInt8), (45 : UInt8), (45 : UInt8)])])) w'_1 () w' ∧ ∃ (w'_2 : World), RunsTo Tryz.prog (Instr.mapUpdate 132 (Value.map x) (Value.int IntKind.u8 (3 : Int)) (Value.agg
 #[Value.string (ByteArray.mk #[(114 : UInt8), (114 : UInt8), (45 : UInt8), (45 : UInt8)])])) w' () w'_2 ∧ ∃ (w' : World), RunsTo Tryz.prog (Instr.mapUpdate 132 (Value.map x) (Value.int IntKind.u8 (4 :
 Int)) (Value.agg #[Value.string (ByteArray.mk #[(114 : UInt8), (114 : UInt8), (114 : UInt8), (50 : UInt8)])])) w'_2 () w' ∧ ∃ (w'_3 : World), RunsTo Tryz.prog (Instr.mapUpdate 132 (Value.map x)
 (Value.int IntKind.u8 (5 : Int)) (Value.agg #[Value.string (ByteArray.mk #[(114 : UInt8), (114 : UInt8), (45 : UInt8), (49 : UInt8)])])) w' () w'_3 ∧ ∃ (w' : World), RunsTo Tryz.prog (Instr.mapUpdate
 132 (Value.map x) (Value.int IntKind.u8 (6 : Int)) (Value.agg #[Value.string (ByteArray.mk #[(114 : UInt8), (114 : UInt8), (45 : UInt8), (49 : UInt8)])])) w'_3 () w' ∧ ∃ (w'_4 : World), RunsTo
 Tryz.prog (Instr.mapUpdate 132 (Value.map x) (Value.int IntKind.u8 (7 : Int)) (Value.agg #[Value.string (ByteArray.mk #[(114 : UInt8), (114 : UInt8), (45 : UInt8), (49 : UInt8)])])) w' () w'_4 ∧ ∃ (w'
 : World), RunsTo Tryz.prog (Instr.mapUpdate 132 (Value.map x) (Value.int IntKind.u8 (8 : Int)) (Value.agg #[Value.string (ByteArray.mk #[(114 : UInt8), (114 : UInt8), (109 : UInt8), (102 : UInt8)])]))
 w'_4 () w' ∧ ∃ (w'_5 : World), RunsTo Tryz.prog (Instr.mapUpdate 132 (Value.map x) (Value.int IntKind.u8 (9 : Int)) (Value.agg #[Value.string (ByteArray.mk #[(114 : UInt8), (45 : UInt8), (45 : UInt8),
 (49 : UInt8)])])) w' () w'_5 ∧ ∃ (w' : World), RunsTo Tryz.prog (Instr.mapUpdate 132 (Value.map x) (Value.int IntKind.u8 (10 : Int)) (Value.agg #[Value.string (ByteArray.mk #[(106 : UInt8), (45 :
 UInt8), (45 : UInt8), (45 : UInt8)])])) w'_5 () w' ∧ ∃ (w'_6 : World), RunsTo Tryz.prog (Instr.mapUpdate 132 (Value.map x) (Value.int IntKind.u8 (11 : Int)) (Value.agg #[Value.string (ByteArray.mk
 #[(106 : UInt8), (114 : UInt8), (45 : UInt8), (45 : UInt8)])])) w' () w'_6 ∧ ∃ (w' : World), RunsTo Tryz.prog (Instr.mapUpdate 132 (Value.map x) (Value.int IntKind.u8 (12 : Int)) (Value.agg
 #[Value.string (ByteArray.mk #[(106 : UInt8), (114 : UInt8), (114 : UInt8), (109 : UInt8)])])) w'_6 () w' ∧ ∃ (w'_7 : World), RunsTo Tryz.prog (Instr.mapUpdate 132 (Value.map x) (Value.int IntKind.u8
 (13 : Int)) (Value.agg #[Value.string (ByteArray.mk #[(99 : UInt8), (106 : UInt8), (45 : UInt8), (45 : UInt8)])])) w' () w'_7 ∧ ∃ (w' : World), RunsTo Tryz.prog (Instr.mapUpdate 132 (Value.map x)
 (Value.int IntKind.u8 (14 : Int)) (Value.agg #[Value.string (ByteArray.mk #[(105 : UInt8), (106 : UInt8), (114 : UInt8), (109 : UInt8)])])) w'_7 () w' ∧ ∃ (w'_8 : World), RunsTo Tryz.prog
 (Instr.mapUpdate 132 (Value.map x) (Value.int IntKind.u8 (15 : Int)) (Value.agg #[Value.string (ByteArray.mk #[(99 : UInt8), (110 : UInt8), (45 : UInt8), (45 : UInt8)])])) w' () w'_8 ∧ ∃ (w' : World),
 RunsTo Tryz.prog (Instr.mapUpdate 132 (Value.map x) (Value.int IntKind.u8 (16 : Int)) (Value.agg #[Value.string (ByteArray.mk #[(105 : UInt8), (106 : UInt8), (114 : UInt8), (109 : UInt8)])])) w'_8 ()
 w' ∧ ∃ (w'_9 : World), RunsTo Tryz.prog (Instr.mapUpdate 132 (Value.map x) (Value.int IntKind.u8 (17 : Int)) (Value.agg #[Value.string (ByteArray.mk #[(108 : UInt8), (106 : UInt8), (114 : UInt8), (45 :
 UInt8)])])) w' () w'_9 ∧ ∃ (w' : World), RunsTo Tryz.prog (Instr.mapUpdate 132 (Value.map x) (Value.int IntKind.u8 (18 : Int)) (Value.agg #[Value.string (ByteArray.mk #[(114 : UInt8), (99 : UInt8),
 (120 : UInt8), (45 : UInt8)])])) w'_9 () w' ∧ ∃ (w'_10 : World), RunsTo Tryz.prog (Instr.mapUpdate 132 (Value.map x) (Value.int IntKind.u8 (19 : Int)) (Value.agg #[Value.string (ByteArray.mk #[(114 :
 UInt8), (99 : UInt8), (45 : UInt8), (45 : UInt8)])])) w' () w'_10 ∧ ∃ (w' : World), RunsTo Tryz.prog (Instr.mapUpdate 132 (Value.map x) (Value.int IntKind.u8 (20 : Int)) (Value.agg #[Value.string
 (ByteArray.mk #[(115 : UInt8), (114 : UInt8), (114 : UInt8), (45 : UInt8)])])) w'_10 () w' ∧ ∃ (w'_11 : World), RunsTo Tryz.prog (Instr.mapUpdate 132 (Value.map x) (Value.int IntKind.u8 (21 : Int))
 (Value.agg #[Value.string (ByteArray.mk #[(115 : UInt8), (106 : UInt8), (45 : UInt8), (45 : UInt8)])])) w' () w'_11 ∧ ∃ (w' : World), RunsTo Tryz.prog (Instr.mapUpdate 132 (Value.map x) (Value.int
 IntKind.u8 (22 : Int)) (Value.agg #[Value.string (ByteArray.mk #[(115 : UInt8), (110 : UInt8), (45 : UInt8), (45 : UInt8)])])) w'_11 () w' ∧ ∃ (w'_12 : World), RunsTo Tryz.prog (Instr.mapUpdate 132
 (Value.map x) (Value.int IntKind.u8 (23 : Int)) (Value.agg #[Value.string (ByteArray.mk #[(114 : UInt8), (115 : UInt8), (120 : UInt8), (45 : UInt8)])])) w' () w'_12 ∧ ∃ (w' : World), RunsTo Tryz.prog
 (Instr.mapUpdate 132 (Value.map x) (Value.int IntKind.u8 (24 : Int)) (Value.agg #[Value.string (ByteArray.mk #[(116 : UInt8), (45 : UInt8), (45 : UInt8), (45 : UInt8)])])) w'_12 () w' ∧ ∃ (w'_13 :
 World), RunsTo Tryz.prog (Instr.mapUpdate 132 (Value.map x) (Value.int IntKind.u8 (25 : Int)) (Value.agg #[Value.string (ByteArray.mk #[(116 : UInt8), (114 : UInt8), (45 : UInt8), (45 : UInt8)])])) w'
 () w'_13 ∧ ∃ (w' : World), RunsTo Tryz.prog (Instr.mapUpdate 132 (Value.map x) (Value.int IntKind.u8 (26 : Int)) (Value.agg #[Value.string (ByteArray.mk #[(114 : UInt8), (116 : UInt8), (45 : UInt8),
 (45 : UInt8)])])) w'_13 () w' ∧ ∃ (w'_14 : World), RunsTo Tryz.prog (Instr.mapUpdate 132 (Value.map x) (Value.int IntKind.u8 (27 : Int)) (Value.agg #[Value.string (ByteArray.mk #[(114 : UInt8), (45 :
 UInt8), (45 : UInt8), (45 : UInt8)])])) w' () w'_14 ∧ ∃ (w' : World), RunsTo Tryz.prog (Instr.mapUpdate 132 (Value.map x) (Value.int IntKind.u8 (28 : Int)) (Value.agg #[Value.string (ByteArray.mk
 #[(114 : UInt8), (119 : UInt8), (45 : UInt8), (45 : UInt8)])])) w'_14 () w' ∧ ∃ (w'_15 : World), RunsTo Tryz.prog (Instr.mapUpdate 132 (Value.map x) (Value.int IntKind.u8 (29 : Int)) (Value.agg
 #[Value.string (ByteArray.mk #[(119 : UInt8), (114 : UInt8), (114 : UInt8), (45 : UInt8)])])) w' () w'_15 ∧ ∃ (w' : World), RunsTo Tryz.prog (Instr.mapUpdate 132 (Value.map x) (Value.int IntKind.u8 (30
 : Int)) (Value.agg #[Value.string (ByteArray.mk #[(119 : UInt8), (114 : UInt8), (45 : UInt8), (45 : UInt8)])])) w'_15 () w' ∧ ∃ (w'_16 : World), RunsTo Tryz.prog (Instr.mapUpdate 132 (Value.map x)
 (Value.int IntKind.u8 (31 : Int)) (Value.agg #[Value.string (ByteArray.mk #[(113 : UInt8), (45 : UInt8), (45 : UInt8), (45 : UInt8)])])) w' () w'_16 ∧ ∃ (w' : World), RunsTo Tryz.prog (Instr.mapUpdate
 132 (Value.map x) (Value.int IntKind.u8 (32 : Int)) (Value.agg #[Value.string (ByteArray.mk #[(45 : UInt8), (45 : UInt8), (45 : UInt8), (45 : UInt8)])])) w'_16 () w' ∧ ∃ (w'_17 : World), RunsTo
 Tryz.prog (Instr.mapUpdate 132 (Value.map x) (Value.int IntKind.u8 (33 : Int)) (Value.agg #[Value.string (ByteArray.mk #[(45 : UInt8), (45 : UInt8), (45 : UInt8), (45 : UInt8)])])) w' () w'_17 ∧ ∃ (w'
 : World), RunsTo Tryz.prog (Instr.mapUpdate 132 (Value.map x) (Value.int IntKind.u8 (34 : Int)) (Value.agg #[Value.string (ByteArray.mk #[(45 : UInt8), (45 : UInt8), (45 : UInt8), (45 : UInt8)])]))
 w'_17 () w' ∧ ∃ (w'_18 : World), RunsTo Tryz.prog (Instr.mapUpdate 132 (Value.map x) (Value.int IntKind.u8 (35 : Int)) (Value.agg #[Value.string (ByteArray.mk #[(45 : UInt8), (45 : UInt8), (45 :
 UInt8), (45 : UInt8)])])) w' () w'_18 ∧ ∃ (x_1 : ByteArray) (w' : World), RunsTo Tryz.prog (Instr.lookup 132 (Value.map x) (Value.int IntKind.u8 o) false) w'_18 (Value.agg #[Value.string x_1]) w'
 ∧ K (Value.string x_1) w'
theorem code_shape.calls (ok : Okay Tryz.prog) {o : Int} {w : World} {K : Value → World → Prop} (h : code_shape.W o w K) : CallsV Tryz.prog 46 #[.int .u8 o] w K :=
  fnW_calls ok Tryz.func46 (an := (.named .auto)) (args := [.int .u8 o]) (Eq.mp (by kernel_rfl) h)
noncomputable def code_field_1.W : Int → Addr → World → (Value → World → Prop) → Prop := fun (high : Int) (a1 : Addr) (w : World) (K : Value → World → Prop) => ∀ (g : Nat) (w' : World), Fresh w g w'
 [Value.int IntKind.i64 high] 3 → K (Value.func (Fn.func 88) #[] #[Value.pointer (some a1), Value.pointer (some (Addr.mk g 0 none))]) w'
theorem code_field_1.calls (ok : Okay Tryz.prog) {high : Int} {a1 : Addr} {w : World} {K : Value → World → Prop} (h : code_field_1.W high a1 w K) : CallsV Tryz.prog 87 #[.int .i64 high, .pointer (some a1)] w K :=
  fnW_calls ok Tryz.func87 (an := (.named .auto)) (args := [.int .i64 high, .pointer (some a1)]) (Eq.mp (by kernel_rfl) h)
noncomputable def code_field_1_1.W : Addr → Addr → World → (Value → World → Prop) → Prop := fun (a0 a1 : Addr) (w : World) (K : Value → World → Prop) => ∃ (x : Int), World.cell? w a0 = some
 (Value.int IntKind.i64 x) ∧ bif decide ((0 : Int) ≤ x) then ∃ (x : Int), World.cell? w a0 = some (Value.int IntKind.i64 x) ∧ ∃ (x_1 : Int), World.cell? w a1 = some (Value.int
 IntKind.i64 x_1) ∧ K (Value.bool (decide (x < x_1))) w else K (Value.bool false) w
theorem code_field_1_1.calls (ok : Okay Tryz.prog) {a0 : Addr} {a1 : Addr} {w : World} {K : Value → World → Prop} (h : code_field_1_1.W a0 a1 w K) : CallsV Tryz.prog 88 #[.pointer (some a0), .pointer (some a1)] w K :=
  fnW_calls ok Tryz.func88 (an := (.named .auto)) (args := [.pointer (some a0), .pointer (some a1)]) (Eq.mp (by kernel_rfl) h)
noncomputable def code_field_3.W : Addr → World → (Value → World → Prop) → Prop := fun (a0 : Addr) (w : World) (K : Value → World → Prop) => ∃ (x : Int), World.cell? w a0 = some (Value.int
 IntKind.i64 x) ∧ K (Value.bool (decide (x = (0 : Int)))) w
theorem code_field_3.calls (ok : Okay Tryz.prog) {a0 : Addr} {w : World} {K : Value → World → Prop} (h : code_field_3.W a0 w K) : CallsV Tryz.prog 91 #[.pointer (some a0)] w K :=
  fnW_calls ok Tryz.func91 (an := (.named .auto)) (args := [.pointer (some a0)]) (Eq.mp (by kernel_rfl) h)
noncomputable def code_field_4.W : Addr → Addr → Addr → World → (Value → World → Prop) → Prop := fun (a0 a1 a2 : Addr) (w : World) (K : Value → World → Prop) => ∃ (x : Int), World.cell? w a0 =
 some (Value.int IntKind.i64 x) ∧ ∃ (x_1 : Int), World.cell? w a1 = some (Value.int IntKind.i64 x_1) ∧ bif decide (x_1 < x) then ∃ (x : Int), World.cell? w a0 = some
 (Value.int IntKind.i64 x) ∧ ∃ (x_2 : Option Addr) (x_3 x_4 : Nat), World.cell? w (Addr.add a2 8) = some (Value.slice x_2 x_3 x_4) ∧ K (Value.bool (decide (x < (↑x_3 : Int)))) w else K
 (Value.bool false) w
theorem code_field_4.calls (ok : Okay Tryz.prog) {a0 : Addr} {a1 : Addr} {a2 : Addr} {w : World} {K : Value → World → Prop} (h : code_field_4.W a0 a1 a2 w K) : CallsV Tryz.prog 92 #[.pointer (some a0), .pointer (some a1), .pointer (some a2)] w K :=
  fnW_calls ok Tryz.func92 (an := (.named .auto)) (args := [.pointer (some a0), .pointer (some a1), .pointer (some a2)]) (Eq.mp (by kernel_rfl) h)
noncomputable def code_field_5.W : Addr → Addr → World → (Value → World → Prop) → Prop := fun (a0 a1 : Addr) (w : World) (K : Value → World → Prop) => ∃ (x : Int), World.cell? w a0 = some
 (Value.int IntKind.i64 x) ∧ bif decide ((1 : Int) ≤ x) then ∃ (x : Int), World.cell? w a0 = some (Value.int IntKind.i64 x) ∧ ∃ (x_1 : Int), World.cell? w a1 = some (Value.int
 IntKind.i64 x_1) ∧ K (Value.bool (decide (x ≤ x_1))) w else K (Value.bool false) w
theorem code_field_5.calls (ok : Okay Tryz.prog) {a0 : Addr} {a1 : Addr} {w : World} {K : Value → World → Prop} (h : code_field_5.W a0 a1 w K) : CallsV Tryz.prog 93 #[.pointer (some a0), .pointer (some a1)] w K :=
  fnW_calls ok Tryz.func93 (an := (.named .auto)) (args := [.pointer (some a0), .pointer (some a1)]) (Eq.mp (by kernel_rfl) h)
noncomputable def code_field_6.W : Addr → Addr → World → (Value → World → Prop) → Prop := fun (a0 a1 : Addr) (w : World) (K : Value → World → Prop) => ∃ (x : Int), World.cell? w a0 = some
 (Value.int IntKind.i64 x) ∧ bif decide ((1 : Int) ≤ x) then ∃ (x : Int), World.cell? w a0 = some (Value.int IntKind.i64 x) ∧ ∃ (x_1 : Int), World.cell? w (Addr.add a1 1) = some
 (Value.int IntKind.i64 x_1) ∧ K (Value.bool (decide (x ≤ x_1))) w else K (Value.bool false) w
theorem code_field_6.calls (ok : Okay Tryz.prog) {a0 : Addr} {a1 : Addr} {w : World} {K : Value → World → Prop} (h : code_field_6.W a0 a1 w K) : CallsV Tryz.prog 94 #[.pointer (some a0), .pointer (some a1)] w K :=
  fnW_calls ok Tryz.func94 (an := (.named .auto)) (args := [.pointer (some a0), .pointer (some a1)]) (Eq.mp (by kernel_rfl) h)
noncomputable def code_field_7.W : ByteArray → Bool → Bool → World → (Value → World → Prop) → Prop := fun (c0 : ByteArray) (c1 c2 : Bool) (w : World) (K : Value → World → Prop) => ∀ (g : Nat) (w' :
 World), Fresh w g w' [Value.string c0, Value.bool c1, Value.bool c2] 56 → ∃ (x : Bool), World.cell? w' (Addr.add (Addr.mk g 0 none) 1) = some (Value.bool x) ∧ K (Value.bool x) w'
theorem code_field_7.calls (ok : Okay Tryz.prog) {c0 : ByteArray} {c1 : Bool} {c2 : Bool} {w : World} {K : Value → World → Prop} (h : code_field_7.W c0 c1 c2 w K) : CallsV Tryz.prog 95 #[.agg #[.string c0, .bool c1, .bool c2]] w K :=
  fnW_calls ok Tryz.func95 (an := (.named .auto)) (args := [.agg #[.string c0, .bool c1, .bool c2]]) (Eq.mp (by kernel_rfl) h)
noncomputable def code_field_8.W : ByteArray → Bool → Bool → World → (Value → World → Prop) → Prop := fun (c0 : ByteArray) (c1 c2 : Bool) (w : World) (K : Value → World → Prop) => ∀ (g : Nat) (w' :
 World), Fresh w g w' [Value.string c0, Value.bool c1, Value.bool c2] 56 → ∃ (x : Bool), World.cell? w' (Addr.add (Addr.mk g 0 none) 1) = some (Value.bool x) ∧ K (Value.bool !x) w'
theorem code_field_8.calls (ok : Okay Tryz.prog) {c0 : ByteArray} {c1 : Bool} {c2 : Bool} {w : World} {K : Value → World → Prop} (h : code_field_8.W c0 c1 c2 w K) : CallsV Tryz.prog 96 #[.agg #[.string c0, .bool c1, .bool c2]] w K :=
  fnW_calls ok Tryz.func96 (an := (.named .auto)) (args := [.agg #[.string c0, .bool c1, .bool c2]]) (Eq.mp (by kernel_rfl) h)
noncomputable def code_field_9.W : ByteArray → Bool → Bool → World → (Value → World → Prop) → Prop := fun (c0 : ByteArray) (c1 c2 : Bool) (w : World) (K : Value → World → Prop) => ∀ (g : Nat) (w' :
 World), Fresh w g w' [Value.string c0, Value.bool c1, Value.bool c2] 56 → ∃ (x : Bool), World.cell? w' (Addr.add (Addr.mk g 0 none) 1) = some (Value.bool x) ∧ bif !x then ∃ (x : Bool),
 World.cell? w' (Addr.add (Addr.mk g 0 none) 2) = some (Value.bool x) ∧ K (Value.bool x) w' else K (Value.bool false) w'
theorem code_field_9.calls (ok : Okay Tryz.prog) {c0 : ByteArray} {c1 : Bool} {c2 : Bool} {w : World} {K : Value → World → Prop} (h : code_field_9.W c0 c1 c2 w K) : CallsV Tryz.prog 97 #[.agg #[.string c0, .bool c1, .bool c2]] w K :=
  fnW_calls ok Tryz.func97 (an := (.named .auto)) (args := [.agg #[.string c0, .bool c1, .bool c2]]) (Eq.mp (by kernel_rfl) h)
noncomputable def code_runs.W : Int → Int → Int → Option Addr → Nat → Nat → Option Addr → Nat → Nat → Option Addr → Nat → Nat → Option Addr → Nat → Nat → Option Addr → Nat → Nat → Option Addr → Nat →
 Nat → Int → World → (Value → World → Prop) → Prop := fun (p0 p1 p2 : Int) (p3_A : Option Addr) (p3_n p3_c : Nat) (p4_A : Option Addr) (p4_n p4_c : Nat) (p5_A : Option Addr) (p5_n p5_c : Nat) (p6_A :
 Option Addr) (p6_n p6_c : Nat) (p7_A : Option Addr) (p7_n p7_c : Nat) (p8_A : Option Addr) (p8_n p8_c : Nat) (atx : Int) (w : World) (K : Value → World → Prop) => ∀ (g : Nat) (w' : World), Fresh w g w'
 [Value.int IntKind.i64 p0, Value.int IntKind.i64 p1, Value.int IntKind.i64 p2, Value.slice p3_A p3_n p3_c, Value.slice p4_A p4_n p4_c, Value.slice p5_A p5_n p5_c, Value.slice p6_A p6_n p6_c,
 Value.slice p7_A p7_n p7_c, Value.slice p8_A p8_n p8_c] 29 → ∃ (x : Option Addr) (x_1 x_2 : Nat), World.cell? w' (Addr.add (Addr.mk g 0 none) 8) = some (Value.slice x x_1 x_2) ∧ ∃ (ad :
 Addr), x = some ad ∧ ((0 : Int) ≤ atx ∧ atx < (↑x_1 : Int)) ∧ ∃ (x : Int), World.cell? w' (Addr.add (Addr.add ad (Int.toNat atx * 5)) 0) = some (Value.int IntKind.u8 x) ∧ ∃ (x_3 : Int),
 World.cell? w' (Addr.add (Addr.add ad (Int.toNat atx * 5)) 1) = some (Value.int IntKind.i64 x_3) ∧ ∃ (x_4 : Int), World.cell? w' (Addr.add (Addr.add ad (Int.toNat atx * 5)) 2) = some
 (Value.int IntKind.i64 x_4) ∧ ∃ (x_5 : Int), World.cell? w' (Addr.add (Addr.add ad (Int.toNat atx * 5)) 3) = some (Value.int IntKind.i64 x_5) ∧ ∃ (x_6 : Int), World.cell? w' (Addr.add (Addr.add
 ad (Int.toNat atx * 5)) 4) = some (Value.int IntKind.i64 x_6) ∧ ∀ (g_1 : Nat) (w'_1 : World), Fresh w' g_1 w'_1 [Value.int IntKind.u8 (0 : Int), Value.int IntKind.i64 (0 : Int), Value.int
 IntKind.i64 (0 : Int), Value.int IntKind.i64 (0 : Int), Value.int IntKind.i64 (0 : Int)] 46 → stOK (Addr.mk g_1 0 none) 0 [Value.int IntKind.u8 x, Value.int IntKind.i64 x_3, Value.int
 IntKind.i64 x_4, Value.int IntKind.i64 x_5, Value.int IntKind.i64 x_6] w'_1 ∧ ∀ (w' : World), w' = setAll (Addr.mk g_1 0 none) 0 [Value.int IntKind.u8 x, Value.int IntKind.i64 x_3, Value.int
 IntKind.i64 x_4, Value.int IntKind.i64 x_5, Value.int IntKind.i64 x_6] w'_1 → ∃ (x : Int), World.cell? w' (Addr.add (Addr.mk g_1 0 none) 0) = some (Value.int IntKind.u8 x) ∧ bif
 decide (x = (8 : Int)) then ∃ (x : Int), World.cell? w' (Addr.add (Addr.mk g_1 0 none) 4) = some (Value.int IntKind.i64 x) ∧ CallsV Tryz.prog 18 #[Value.int IntKind.i64 x] w'
 fun (v : Value) (w' : World) => ∃ (x : ByteArray) (x_7 : Bool), v = Value.tuple #[Value.string x, Value.bool x_7] ∧ ∃ (x_8 : Int), World.cell? w' (Addr.add (Addr.mk g_1 0 none) 3) = some
 (Value.int IntKind.i64 x_8) ∧ bif decide (x_8 ≤ (100 : Int)) then ∃ (x_9 : Int), World.cell? w' (Addr.add (Addr.mk g_1 0 none) 2) = some (Value.int IntKind.i64 x_9) ∧ ∃ (x_10 :
 Int), World.cell? w' (Addr.add (Addr.mk g_1 0 none) 3) = some (Value.int IntKind.i64 x_10) ∧ CallsV Tryz.prog 99 #[Value.int IntKind.i64 x_9, Value.int IntKind.i64 x_10, Value.pointer
 (some (Addr.mk g 0 none))] w' fun (v : Value) (w' : World) => ∃ (x_11 : Bool), v = Value.bool x_11 ∧ bif x_11 then ∃ (x_12 : Int), World.cell? w' (Addr.add (Addr.mk g_1 0 none) 3)
 = some (Value.int IntKind.i64 x_12) ∧ CallsV Tryz.prog 100 #[Value.string x, Value.int IntKind.i64 x_12] w' fun (v : Value) (w' : World) => ∃ (x : Bool), v = Value.bool x ∧ K (Value.bool x) w'
 else K (Value.bool false) w' else K (Value.bool false) w' else bif decide (x = (12 : Int)) then ∃ (x : Int), World.cell? w' (Addr.add (Addr.mk g_1 0 none) 2) = some
 (Value.int IntKind.i64 x) ∧ ∃ (x_7 : Int), World.cell? w' (Addr.add (Addr.mk g_1 0 none) 4) = some (Value.int IntKind.i64 x_7) ∧ CallsV Tryz.prog 99 #[Value.int IntKind.i64 x, Value.int
 IntKind.i64 x_7, Value.pointer (some (Addr.mk g 0 none))] w' fun (v : Value) (w' : World) => ∃ (x : Bool), v = Value.bool x ∧ bif x then ∃ (x : Int), World.cell? w' (Addr.add (Addr.mk g_1
 0 none) 3) = some (Value.int IntKind.i64 x) ∧ ∃ (x_8 : Int), World.cell? w' (Addr.add (Addr.mk g_1 0 none) 4) = some (Value.int IntKind.i64 x_8) ∧ CallsV Tryz.prog 99
 #[Value.int IntKind.i64 x, Value.int IntKind.i64 x_8, Value.pointer (some (Addr.mk g 0 none))] w' fun (v : Value) (w' : World) => ∃ (x : Bool), v = Value.bool x ∧ K (Value.bool x) w' else
 K (Value.bool false) w' else ∃ (J : Bool → World → Prop), (∀ (x_7 : Bool) (w : World), J x_7 w → bif x_7 then ∃ (x : Int), World.cell? w (Addr.add (Addr.mk g_1 0 none) 3) = some
 (Value.int IntKind.i64 x) ∧ ∃ (x_8 : Int), World.cell? w (Addr.add (Addr.mk g_1 0 none) 4) = some (Value.int IntKind.i64 x_8) ∧ CallsV Tryz.prog 99 #[Value.int IntKind.i64 x, Value.int
 IntKind.i64 x_8, Value.pointer (some (Addr.mk g 0 none))] w fun (v : Value) (w' : World) => ∃ (x : Bool), v = Value.bool x ∧ K (Value.bool x) w' else bif decide (x = (18 : Int))
 then ∃ (x : Int), World.cell? w (Addr.add (Addr.mk g_1 0 none) 3) = some (Value.int IntKind.i64 x) ∧ K (Value.bool (decide (x < (30 : Int)))) w else bif decide (x =
 (23 : Int)) then ∃ (S : World → Prop), S (World.drew w) ∧ ∃ (x : Int), (∀ (u : World), S u → World.cell? u (Addr.add (Addr.mk g_1 0 none) 3) = some (Value.int IntKind.i64 x)) ∧ ∃ (x_8 :
 Option Addr) (x_9 x_10 : Nat), (∀ (u : World), S u → World.cell? u (Addr.add (Addr.mk g 0 none) 6) = some (Value.slice x_8 x_9 x_10)) ∧ ∃ (x_11 : Int), (∀ (u : World), S u → World.cell? u
 (Addr.add (Addr.mk g_1 0 none) 2) = some (Value.int IntKind.i64 x_11)) ∧ ∃ (ad : Addr), x_8 = some ad ∧ ((0 : Int) ≤ x_11 ∧ x_11 < (↑x_9 : Int)) ∧ ∃ (x_12 : Int), (∀ (u : World), S
 u → World.cell? u (Addr.add (Addr.add ad (Int.toNat x_11 * 3)) 1) = some (Value.int IntKind.i64 x_12)) ∧ K (Value.bool (decide (x < x_12))) (World.drew w) else bif decide (x
 = (20 : Int)) then ∃ (S : World → Prop), S (World.drew w) ∧ ∃ (x : Int), (∀ (u : World), S u → World.cell? u (Addr.add (Addr.mk g_1 0 none) 2) = some (Value.int IntKind.i64 x)) ∧ ∃ (x_8 :
 Option Addr) (x_9 x_10 : Nat), (∀ (u : World), S u → World.cell? u (Addr.add (Addr.mk g 0 none) 6) = some (Value.slice x_8 x_9 x_10)) ∧ ∃ (x_11 : Int), (∀ (u : World), S u → World.cell? u
 (Addr.add (Addr.mk g_1 0 none) 1) = some (Value.int IntKind.i64 x_11)) ∧ ∃ (ad : Addr), x_8 = some ad ∧ ((0 : Int) ≤ x_11 ∧ x_11 < (↑x_9 : Int)) ∧ ∃ (x_12 : Option Addr) (x_13 x_14
 : Nat), (∀ (u : World), S u → World.cell? u (Addr.add (Addr.add ad (Int.toNat x_11 * 3)) 0) = some (Value.slice x_12 x_13 x_14)) ∧ CallsV Tryz.prog 99 #[Value.int IntKind.i64 x, Value.int
 IntKind.i64 (↑x_13 : Int), Value.pointer (some (Addr.mk g 0 none))] (World.drew w) fun (v : Value) (w' : World) => ∃ (x : Bool), v = Value.bool x ∧ S w' ∧ bif x then ∃ (S_1 : World →
 Prop), S_1 w' ∧ ∃ (x : Int), (∀ (u : World), S_1 u → World.cell? u (Addr.add (Addr.mk g_1 0 none) 3) = some (Value.int IntKind.i64 x)) ∧ ∃ (x_15 : Option Addr) (x_16 x_17 : Nat), (∀ (u :
 World), S_1 u → World.cell? u (Addr.add (Addr.mk g 0 none) 6) = some (Value.slice x_15 x_16 x_17)) ∧ ∃ (x_18 : Int), (∀ (u : World), S_1 u → World.cell? u (Addr.add (Addr.mk g_1 0
 none) 1) = some (Value.int IntKind.i64 x_18)) ∧ ∃ (ad : Addr), x_15 = some ad ∧ ((0 : Int) ≤ x_18 ∧ x_18 < (↑x_16 : Int)) ∧ ∃ (x_19 : Int), (∀ (u : World), S_1 u → World.cell? u
 (Addr.add (Addr.add ad (Int.toNat x_18 * 3)) 1) = some (Value.int IntKind.i64 x_19)) ∧ CallsV Tryz.prog 99 #[Value.int IntKind.i64 x, Value.int IntKind.i64 x_19, Value.pointer (some
 (Addr.mk g 0 none))] w' fun (v : Value) (w' : World) => ∃ (x : Bool), v = Value.bool x ∧ S_1 w' ∧ S w' ∧ K (Value.bool x) w' else K (Value.bool false) w' else bif decide (x = (27
 : Int)) then ∃ (x : Int), World.cell? w (Addr.add (Addr.mk g_1 0 none) 1) = some (Value.int IntKind.i64 x) ∧ ∃ (x_8 : Option Addr) (x_9 x_10 : Nat), World.cell? w (Addr.add (Addr.mk g 0
 none) 3) = some (Value.slice x_8 x_9 x_10) ∧ CallsV Tryz.prog 99 #[Value.int IntKind.i64 x, Value.int IntKind.i64 (↑x_9 : Int), Value.pointer (some (Addr.mk g 0 none))] w
 fun (v : Value) (w' : World) => ∃ (x : Bool), v = Value.bool x ∧ K (Value.bool x) w' else ∃ (J : Bool → World → Prop), (∀ (x : Bool) (w : World), J x w → bif x then bif decide (atx = (0 :
 Int)) then ∃ (x : Option Addr) (x_8 x_9 : Nat), World.cell? w (Addr.add (Addr.mk g 0 none) 8) = some (Value.slice x x_8 x_9) ∧ K (Value.bool (decide ((↑x_8 : Int) = (2 : Int))))
 w else K (Value.bool false) w else K (Value.bool true) w) ∧ bif decide (x = (31 : Int)) then J (decide (x = (31 : Int))) w else bif decide (x = (32 : Int)) then
 J (decide (x = (32 : Int))) w else bif decide (x = (33 : Int)) then J (decide (x = (33 : Int))) w else J (decide (x = (34 : Int))) w) ∧ bif decide (x =
 (14 : Int)) then J (decide (x = (14 : Int))) w' else J (decide (x = (16 : Int))) w'
theorem code_runs.calls (ok : Okay Tryz.prog) {p0 : Int} {p1 : Int} {p2 : Int} {p3_A : Option Addr} {p3_n : Nat} {p3_c : Nat} {p4_A : Option Addr} {p4_n : Nat} {p4_c : Nat} {p5_A : Option Addr} {p5_n : Nat} {p5_c : Nat} {p6_A : Option Addr} {p6_n : Nat} {p6_c : Nat} {p7_A : Option Addr} {p7_n : Nat} {p7_c : Nat} {p8_A : Option Addr} {p8_n : Nat} {p8_c : Nat} {atx : Int} {w : World} {K : Value → World → Prop} (h : code_runs.W p0 p1 p2 p3_A p3_n p3_c p4_A p4_n p4_c p5_A p5_n p5_c p6_A p6_n p6_c p7_A p7_n p7_c p8_A p8_n p8_c atx w K) : CallsV Tryz.prog 48 #[.agg #[.int .i64 p0, .int .i64 p1, .int .i64 p2, .slice p3_A p3_n p3_c, .slice p4_A p4_n p4_c, .slice p5_A p5_n p5_c, .slice p6_A p6_n p6_c, .slice p7_A p7_n p7_c, .slice p8_A p8_n p8_c], .int .i64 atx] w K :=
  fnW_calls ok Tryz.func48 (an := (.named (.seq .auto (.seq .auto (.seq .auto (.seq (.seq .auto (.block (.seq .auto (.cond .auto (.seq .auto (.cond .auto (.join [(58, .one .bool)] .auto (.cond .auto (.seq .auto (.cond .auto (.seq .auto (.cond .auto (.seq .auto (.cond .auto (.seq .auto (.cond .auto (.join [(120, .one .bool)] .auto .auto))))))))))))))))) .auto)))))) (args := [.agg #[.int .i64 p0, .int .i64 p1, .int .i64 p2, .slice p3_A p3_n p3_c, .slice p4_A p4_n p4_c, .slice p5_A p5_n p5_c, .slice p6_A p6_n p6_c, .slice p7_A p7_n p7_c, .slice p8_A p8_n p8_c], .int .i64 atx]) (Eq.mp (by kernel_rfl) h)
noncomputable def code_runs_1.W : Int → Int → Addr → World → (Value → World → Prop) → Prop := fun (fromx many : Int) (a2 : Addr) (w : World) (K : Value → World → Prop) => ∃ (x : Int), World.cell? w
 (Addr.add a2 1) = some (Value.int IntKind.i64 x) ∧ K (Value.bool (decide (many ≤ IntKind.wrap IntKind.i64 (x - fromx)))) w
theorem code_runs_1.calls (ok : Okay Tryz.prog) {fromx : Int} {many : Int} {a2 : Addr} {w : World} {K : Value → World → Prop} (h : code_runs_1.W fromx many a2 w K) : CallsV Tryz.prog 99 #[.int .i64 fromx, .int .i64 many, .pointer (some a2)] w K :=
  fnW_calls ok Tryz.func99 (an := (.named .auto)) (args := [.int .i64 fromx, .int .i64 many, .pointer (some a2)]) (Eq.mp (by kernel_rfl) h)
noncomputable def code_Func.W : Int → World → (Value → World → Prop) → Prop := fun (d : Int) (w : World) (K : Value → World → Prop) => CallsV Tryz.prog 56 #[Value.string (ByteArray.mk #[(108 : UInt8),
 (101 : UInt8), (110 : UInt8), (103 : UInt8), (116 : UInt8), (104 : UInt8), (32 : UInt8), (117 : UInt8), (112 : UInt8), (112 : UInt8), (101 : UInt8), (114 : UInt8), (32 : UInt8), (108 : UInt8), (111 :
 UInt8), (119 : UInt8), (101 : UInt8), (114 : UInt8), (32 : UInt8), (97 : UInt8), (98 : UInt8), (115 : UInt8), (32 : UInt8), (116 : UInt8), (121 : UInt8), (112 : UInt8), (101 : UInt8), (111 : UInt8),
 (102 : UInt8), (32 : UInt8), (104 : UInt8), (101 : UInt8), (120 : UInt8), (32 : UInt8), (105 : UInt8), (102 : UInt8), (110 : UInt8), (117 : UInt8), (108 : UInt8), (108 : UInt8), (32 : UInt8), (105 :
 UInt8), (110 : UInt8), (115 : UInt8), (116 : UInt8), (114 : UInt8), (32 : UInt8), (115 : UInt8), (117 : UInt8), (98 : UInt8), (115 : UInt8), (116 : UInt8), (114 : UInt8), (32 : UInt8), (99 : UInt8),
 (111 : UInt8), (97 : UInt8), (108 : UInt8), (101 : UInt8), (115 : UInt8), (99 : UInt8), (101 : UInt8)]), Value.int IntKind.i64 d] w fun (v : Value) (w' : World) => ∃ (x : ByteArray) (x_1 : Bool), v =
 Value.tuple #[Value.string x, Value.bool x_1] ∧ K (Value.tuple #[Value.string x, Value.bool x_1]) w'
theorem code_Func.calls (ok : Okay Tryz.prog) {d : Int} {w : World} {K : Value → World → Prop} (h : code_Func.W d w K) : CallsV Tryz.prog 18 #[.int .i64 d] w K :=
  fnW_calls ok Tryz.func18 (an := (.named .auto)) (args := [.int .i64 d]) (Eq.mp (by kernel_rfl) h)
noncomputable def code_named.W : ByteArray → Int → World → (Value → World → Prop) → Prop := fun (words : ByteArray) (d : Int) (w : World) (K : Value → World → Prop) => CallsV Tryz.prog 110
 #[Value.string words] w fun (v : Value) (w' : World) => ∃ (x : Option Addr) (x_1 x_2 : Nat), v = Value.slice x x_1 x_2 ∧ bif decide (d < (0 : Int)) then K (Value.tuple #[Value.string
 (ByteArray.mk #[]), Value.bool false]) w' else bif decide ((↑x_1 : Int) ≤ d) then K (Value.tuple #[Value.string (ByteArray.mk #[]), Value.bool false]) w' else ∃ (ad : Addr), x =
 some ad ∧ ((0 : Int) ≤ d ∧ d < (↑x_1 : Int)) ∧ ∃ (x : ByteArray), World.cell? w' (Addr.add ad (Int.toNat d * 1)) = some (Value.string x) ∧ K (Value.tuple #[Value.string x, Value.bool
 true]) w'
theorem code_named.calls (ok : Okay Tryz.prog) {words : ByteArray} {d : Int} {w : World} {K : Value → World → Prop} (h : code_named.W words d w K) : CallsV Tryz.prog 56 #[.string words, .int .i64 d] w K :=
  fnW_calls ok Tryz.func56 (an := (.named .auto)) (args := [.string words, .int .i64 d]) (Eq.mp (by kernel_rfl) h)
noncomputable def value_Known.W : ByteArray → Int → World → (Value → World → Prop) → Prop := fun (name : ByteArray) (args : Int) (w : World) (K : Value → World → Prop) => ∃ (J : Bool → World → Prop),
 (∀ (x : Bool) (w : World), J x w → bif x then K (Value.bool (decide (args = (1 : Int)))) w else ∃ (J : Bool → World → Prop), (∀ (x : Bool) (w : World), J x w → bif x then K (Value.bool
 (decide (args = (2 : Int)))) w else bif ByteArray.toList name == ByteArray.toList (ByteArray.mk #[(115 : UInt8), (117 : UInt8), (98 : UInt8), (115 : UInt8), (116 : UInt8), (114 : UInt8)])
 then bif decide (args = (2 : Int)) then K (Value.bool true) w else K (Value.bool (decide (args = (3 : Int)))) w else bif ByteArray.toList name == ByteArray.toList (ByteArray.mk
 #[(99 : UInt8), (111 : UInt8), (97 : UInt8), (108 : UInt8), (101 : UInt8), (115 : UInt8), (99 : UInt8), (101 : UInt8)]) then bif decide ((2 : Int) ≤ args) then K (Value.bool (decide
 (args ≤ (100 : Int)))) w else K (Value.bool false) w else K (Value.bool false) w) ∧ bif ByteArray.toList name == ByteArray.toList (ByteArray.mk #[(105 : UInt8), (102 : UInt8), (110 : UInt8),
 (117 : UInt8), (108 : UInt8), (108 : UInt8)]) then J (ByteArray.toList name == ByteArray.toList (ByteArray.mk #[(105 : UInt8), (102 : UInt8), (110 : UInt8), (117 : UInt8), (108 : UInt8), (108 :
 UInt8)])) w else J (ByteArray.toList name == ByteArray.toList (ByteArray.mk #[(105 : UInt8), (110 : UInt8), (115 : UInt8), (116 : UInt8), (114 : UInt8)])) w) ∧ bif ByteArray.toList name ==
 ByteArray.toList (ByteArray.mk #[(108 : UInt8), (101 : UInt8), (110 : UInt8), (103 : UInt8), (116 : UInt8), (104 : UInt8)]) then J (ByteArray.toList name == ByteArray.toList (ByteArray.mk #[(108 :
 UInt8), (101 : UInt8), (110 : UInt8), (103 : UInt8), (116 : UInt8), (104 : UInt8)])) w else bif ByteArray.toList name == ByteArray.toList (ByteArray.mk #[(117 : UInt8), (112 : UInt8), (112 : UInt8),
 (101 : UInt8), (114 : UInt8)]) then J (ByteArray.toList name == ByteArray.toList (ByteArray.mk #[(117 : UInt8), (112 : UInt8), (112 : UInt8), (101 : UInt8), (114 : UInt8)])) w else bif ByteArray.toList
 name == ByteArray.toList (ByteArray.mk #[(108 : UInt8), (111 : UInt8), (119 : UInt8), (101 : UInt8), (114 : UInt8)]) then J (ByteArray.toList name == ByteArray.toList (ByteArray.mk #[(108 : UInt8),
 (111 : UInt8), (119 : UInt8), (101 : UInt8), (114 : UInt8)])) w else bif ByteArray.toList name == ByteArray.toList (ByteArray.mk #[(97 : UInt8), (98 : UInt8), (115 : UInt8)]) then J (ByteArray.toList
 name == ByteArray.toList (ByteArray.mk #[(97 : UInt8), (98 : UInt8), (115 : UInt8)])) w else bif ByteArray.toList name == ByteArray.toList (ByteArray.mk #[(116 : UInt8), (121 : UInt8), (112 : UInt8),
 (101 : UInt8), (111 : UInt8), (102 : UInt8)]) then J (ByteArray.toList name == ByteArray.toList (ByteArray.mk #[(116 : UInt8), (121 : UInt8), (112 : UInt8), (101 : UInt8), (111 : UInt8), (102 :
 UInt8)])) w else J (ByteArray.toList name == ByteArray.toList (ByteArray.mk #[(104 : UInt8), (101 : UInt8), (120 : UInt8)])) w
theorem value_Known.calls (ok : Okay Tryz.prog) {name : ByteArray} {args : Int} {w : World} {K : Value → World → Prop} (h : value_Known.W name args w K) : CallsV Tryz.prog 100 #[.string name, .int .i64 args] w K :=
  fnW_calls ok Tryz.func100 (an := (.named (.seq .auto (.seq (.seq .auto (.block (.join [(6, .one .bool)] .auto (.cond .auto (.join [(15, .one .bool)] .auto .auto))))) .auto)))) (args := [.string name, .int .i64 args]) (Eq.mp (by kernel_rfl) h)
noncomputable def value_Right.W : Int → Int → ByteArray → World → (Value → World → Prop) → Prop := fun (v0 v1 : Int) (v2 : ByteArray) (w : World) (K : Value → World → Prop) => ∀ (g : Nat) (w' : World),
 Fresh w g w' [Value.int IntKind.u8 v0, Value.int IntKind.i64 v1, Value.string v2] 54 → ∃ (x : Int), World.cell? w' (Addr.add (Addr.mk g 0 none) 0) = some (Value.int IntKind.u8 x) ∧ bif
 decide (x = (0 : Int)) then ∃ (x : Int), World.cell? w' (Addr.add (Addr.mk g 0 none) 1) = some (Value.int IntKind.i64 x) ∧ bif decide (x = (0 : Int)) then ∃ (x :
 ByteArray), World.cell? w' (Addr.add (Addr.mk g 0 none) 2) = some (Value.string x) ∧ K (Value.bool (ByteArray.toList x == ByteArray.toList (ByteArray.mk #[]))) w' else K (Value.bool
 false) w' else bif decide (x = (1 : Int)) then ∃ (x : ByteArray), World.cell? w' (Addr.add (Addr.mk g 0 none) 2) = some (Value.string x) ∧ K (Value.bool (ByteArray.toList x
 == ByteArray.toList (ByteArray.mk #[]))) w' else bif decide (x = (2 : Int)) then bif decide (x = (2 : Int)) then ∃ (x : Int), World.cell? w' (Addr.add (Addr.mk g 0 none) 1) =
 some (Value.int IntKind.i64 x) ∧ bif decide (x = (0 : Int)) then ∃ (x : ByteArray), World.cell? w' (Addr.add (Addr.mk g 0 none) 2) = some (Value.string x) ∧ K (Value.bool
 (decide ((↑(ByteArray.size x) : Int) ≤ (65536 : Int)))) w' else K (Value.bool false) w' else K (Value.bool false) w' else bif decide (x = (3 : Int)) then ∃ (x : Int),
 World.cell? w' (Addr.add (Addr.mk g 0 none) 1) = some (Value.int IntKind.i64 x) ∧ bif decide (x = (0 : Int)) then ∃ (x : ByteArray), World.cell? w' (Addr.add (Addr.mk g 0
 none) 2) = some (Value.string x) ∧ K (Value.bool (decide ((↑(ByteArray.size x) : Int) ≤ (65536 : Int)))) w' else K (Value.bool false) w' else K (Value.bool false) w'
theorem value_Right.calls (ok : Okay Tryz.prog) {v0 : Int} {v1 : Int} {v2 : ByteArray} {w : World} {K : Value → World → Prop} (h : value_Right.W v0 v1 v2 w K) : CallsV Tryz.prog 77 #[.agg #[.int .u8 v0, .int .i64 v1, .string v2]] w K :=
  fnW_calls ok Tryz.func77 (an := (.named .auto)) (args := [.agg #[.int .u8 v0, .int .i64 v1, .string v2]]) (Eq.mp (by kernel_rfl) h)
noncomputable def agg_New.W : ByteArray → Bool → World → (Value → World → Prop) → Prop := fun (name : ByteArray) (distinct : Bool) (w : World) (K : Value → World → Prop) => CallsV Tryz.prog 128
 #[Value.string name] w fun (v : Value) (w' : World) => ∃ (x : Bool), v = Value.bool x ∧ bif !x then K (Value.tuple #[Value.pointer none, Value.int IntKind.i64 (21 : Int)]) w' else bif distinct
 then bif ByteArray.toList name == ByteArray.toList (ByteArray.mk #[(99 : UInt8), (111 : UInt8), (117 : UInt8), (110 : UInt8), (116 : UInt8), (42 : UInt8)]) then K (Value.tuple #[Value.pointer
 none, Value.int IntKind.i64 (2 : Int)]) w' else ∀ (g : Nat) (w'_1 : World), Fresh w' g w'_1 [Value.string name, Value.bool distinct, Value.int IntKind.i64 (0 : Int), Value.int IntKind.u64 (0 :
 Int), Value.int IntKind.u64 (0 : Int), Value.int IntKind.u8 (0 : Int), Value.int IntKind.i64 (0 : Int), Value.string (ByteArray.mk #[]), Value.slice none 0 0, Value.map none] 151 → CallsV
 Tryz.prog 129 #[Value.pointer (some (Addr.mk g 0 none))] w'_1 fun (v : Value) (w' : World) => v = Value.tuple #[] ∧ K (Value.tuple #[Value.pointer (some (Addr.mk g 0 none)),
 Value.int IntKind.i64 (0 : Int)]) w' else ∀ (g : Nat) (w'_1 : World), Fresh w' g w'_1 [Value.string name, Value.bool distinct, Value.int IntKind.i64 (0 : Int), Value.int IntKind.u64 (0 : Int),
 Value.int IntKind.u64 (0 : Int), Value.int IntKind.u8 (0 : Int), Value.int IntKind.i64 (0 : Int), Value.string (ByteArray.mk #[]), Value.slice none 0 0, Value.map none] 151 → CallsV
 Tryz.prog 129 #[Value.pointer (some (Addr.mk g 0 none))] w'_1 fun (v : Value) (w' : World) => v = Value.tuple #[] ∧ K (Value.tuple #[Value.pointer (some (Addr.mk g 0 none)),
 Value.int IntKind.i64 (0 : Int)]) w'
theorem agg_New.calls (ok : Okay Tryz.prog) {name : ByteArray} {distinct : Bool} {w : World} {K : Value → World → Prop} (h : agg_New.W name distinct w K) : CallsV Tryz.prog 81 #[.string name, .bool distinct] w K :=
  fnW_calls ok Tryz.func81 (an := (.named .auto)) (args := [.string name, .bool distinct]) (Eq.mp (by kernel_rfl) h)
noncomputable def agg_Known.W : ByteArray → World → (Value → World → Prop) → Prop := fun (name : ByteArray) (w : World) (K : Value → World → Prop) => bif ByteArray.toList name == ByteArray.toList
 (ByteArray.mk #[(99 : UInt8), (111 : UInt8), (117 : UInt8), (110 : UInt8), (116 : UInt8)]) then bif ByteArray.toList name == ByteArray.toList (ByteArray.mk #[(99 : UInt8), (111 : UInt8), (117 : UInt8),
 (110 : UInt8), (116 : UInt8)]) then K (Value.bool true) w else K (Value.bool false) w else bif ByteArray.toList name == ByteArray.toList (ByteArray.mk #[(99 : UInt8), (111 : UInt8), (117 :
 UInt8), (110 : UInt8), (116 : UInt8), (42 : UInt8)]) then bif ByteArray.toList name == ByteArray.toList (ByteArray.mk #[(99 : UInt8), (111 : UInt8), (117 : UInt8), (110 : UInt8), (116 : UInt8), (42 :
 UInt8)]) then K (Value.bool true) w else K (Value.bool false) w else bif ByteArray.toList name == ByteArray.toList (ByteArray.mk #[(115 : UInt8), (117 : UInt8), (109 : UInt8)]) then bif
 ByteArray.toList name == ByteArray.toList (ByteArray.mk #[(115 : UInt8), (117 : UInt8), (109 : UInt8)]) then K (Value.bool true) w else K (Value.bool false) w else bif ByteArray.toList name
 == ByteArray.toList (ByteArray.mk #[(116 : UInt8), (111 : UInt8), (116 : UInt8), (97 : UInt8), (108 : UInt8)]) then bif ByteArray.toList name == ByteArray.toList (ByteArray.mk #[(116 : UInt8), (111 :
 UInt8), (116 : UInt8), (97 : UInt8), (108 : UInt8)]) then K (Value.bool true) w else K (Value.bool false) w else bif ByteArray.toList name == ByteArray.toList (ByteArray.mk #[(109 : UInt8),
 (105 : UInt8), (110 : UInt8)]) then bif ByteArray.toList name == ByteArray.toList (ByteArray.mk #[(109 : UInt8), (105 : UInt8), (110 : UInt8)]) then K (Value.bool true) w else K (Value.bool
 false) w else bif ByteArray.toList name == ByteArray.toList (ByteArray.mk #[(109 : UInt8), (97 : UInt8), (120 : UInt8)]) then bif ByteArray.toList name == ByteArray.toList (ByteArray.mk #[(109 :
 UInt8), (97 : UInt8), (120 : UInt8)]) then K (Value.bool true) w else K (Value.bool false) w else bif ByteArray.toList name == ByteArray.toList (ByteArray.mk #[(103 : UInt8), (114 : UInt8),
 (111 : UInt8), (117 : UInt8), (112 : UInt8), (95 : UInt8), (99 : UInt8), (111 : UInt8), (110 : UInt8), (99 : UInt8), (97 : UInt8), (116 : UInt8)]) then K (Value.bool true) w else K (Value.bool
 false) w
theorem agg_Known.calls (ok : Okay Tryz.prog) {name : ByteArray} {w : World} {K : Value → World → Prop} (h : agg_Known.W name w K) : CallsV Tryz.prog 128 #[.string name] w K :=
  fnW_calls ok Tryz.func128 (an := (.named .auto)) (args := [.string name]) (Eq.mp (by kernel_rfl) h)
noncomputable def agg_Acc_Reset.W : Option Addr → World → (Value → World → Prop) → Prop := fun (a : Option Addr) (w : World) (K : Value → World → Prop) => bif Option.isNone a then K (Value.tuple #[]) w
 else ∃ (a_1 : Addr), a = some a_1 ∧ ∃ (x : ByteArray), World.cell? w (Addr.add a_1 0) = some (Value.string x) ∧ bif ByteArray.toList x == ByteArray.toList (ByteArray.mk #[]) then K
 (Value.tuple #[]) w else ∃ (a_2 : Addr), a = some a_2 ∧ ∃ (S : World → Prop), S (World.drew w) ∧ ∃ (x : ByteArray), (∀ (u : World), S u → World.cell? u (Addr.add a_2 0) = some
 (Value.string x)) ∧ ∃ (a_3 : Addr), a = some a_3 ∧ ∃ (x_1 : Bool), (∀ (u : World), S u → World.cell? u (Addr.add a_3 1) = some (Value.bool x_1)) ∧ ∃ (x_2 : Option Nat) (w' : World),
 RunsTo Tryz.prog (Instr.makeMap 149 none) (World.drew w) (Value.map x_2) w' ∧ S w' ∧ ∃ (a_4 : Addr), a = some a_4 ∧ stOK a_4 0 [Value.string x, Value.bool x_1, Value.int IntKind.i64 (0 :
 Int), Value.int IntKind.u64 (0 : Int), Value.int IntKind.u64 (0 : Int), Value.int IntKind.u8 (0 : Int), Value.int IntKind.i64 (0 : Int), Value.string (ByteArray.mk #[]), Value.slice none 0 0,
 Value.map x_2] w' ∧ ∀ (w'_1 : World), w'_1 = setAll a_4 0 [Value.string x, Value.bool x_1, Value.int IntKind.i64 (0 : Int), Value.int IntKind.u64 (0 : Int), Value.int IntKind.u64 (0 : Int), Value.int
 IntKind.u8 (0 : Int), Value.int IntKind.i64 (0 : Int), Value.string (ByteArray.mk #[]), Value.slice none 0 0, Value.map x_2] w' → K (Value.tuple #[]) w'_1
theorem agg_Acc_Reset.calls (ok : Okay Tryz.prog) {a : Option Addr} {w : World} {K : Value → World → Prop} (h : agg_Acc_Reset.W a w K) : CallsV Tryz.prog 129 #[.pointer a] w K :=
  fnW_calls ok Tryz.func129 (an := (.named .auto)) (args := [.pointer a]) (Eq.mp (by kernel_rfl) h)
end Go.Proofs.YtaifphjenebgoaaGreatDoor
namespace Go.Proofs
open Go.Shelf
def Tryz.lays171_ren : Go.Shelf.Ren := ⟨fun | 171 => 61 | 243 => 124 | 246 => 138 | 283 => 140 | 284 => 141 | 285 => 142 | 286 => 143 | 129 => 147 | 317 => 146 | 318 => 148 | 319 => 149 | 320 => 150 | 337 => 151 | 338 => 152 | n => n, fun | 3 => 3 | 9 => 9 | 2 => 2 | 4 => 4 | 171 => 169 | 0 => 0 | 53 => 106 | 37 => 32 | 5 => 5 | 173 => 172 | 212 => 185 | 51 => 166 | 20 => 20 | 213 => 186 | 46 => 158 | 232 => 191 | 233 => 192 | n => n, fun | 17 => 2 | 18 => 3 | 19 => 4 | n => n⟩
theorem Tryz.lays171 : Go.Proofs.Lays.n171 Tryz.prog Tryz.lays171_ren := {
  mixed := by kernel_rfl
  f129 := Tryz.func147.trans (congrArg some (by kernel_rfl))
  f171 := Tryz.func61.trans (congrArg some (by kernel_rfl))
  f243 := Tryz.func124.trans (congrArg some (by kernel_rfl))
  f246 := Tryz.func138.trans (congrArg some (by kernel_rfl))
  f283 := Tryz.func140.trans (congrArg some (by kernel_rfl))
  f284 := Tryz.func141.trans (congrArg some (by kernel_rfl))
  f285 := Tryz.func142.trans (congrArg some (by kernel_rfl))
  f286 := Tryz.func143.trans (congrArg some (by kernel_rfl))
  f317 := Tryz.func146.trans (congrArg some (by kernel_rfl))
  f318 := Tryz.func148.trans (congrArg some (by kernel_rfl))
  f319 := Tryz.func149.trans (congrArg some (by kernel_rfl))
  f320 := Tryz.func150.trans (congrArg some (by kernel_rfl))
  f337 := Tryz.func151.trans (congrArg some (by kernel_rfl))
  f338 := Tryz.func152.trans (congrArg some (by kernel_rfl))
  t0 := Tryz.underlying0
  a0 := Tryz.isAgg0
  z0 := Tryz.sizeOf0
  v0 := Tryz.zeroValue0
  t2 := Tryz.underlying2
  a2 := Tryz.isAgg2
  z2 := Tryz.sizeOf2
  v2 := Tryz.zeroValue2
  t3 := Tryz.underlying3
  a3 := Tryz.isAgg3
  z3 := Tryz.sizeOf3
  v3 := Tryz.zeroValue3
  t4 := Tryz.underlying4
  a4 := Tryz.isAgg4
  z4 := Tryz.sizeOf4
  v4 := Tryz.zeroValue4
  t5 := Tryz.underlying5
  a5 := Tryz.isAgg5
  z5 := Tryz.sizeOf5
  v5 := Tryz.zeroValue5
  t9 := Tryz.underlying9
  a9 := Tryz.isAgg9
  z9 := Tryz.sizeOf9
  v9 := Tryz.zeroValue9
  t20 := Tryz.underlying20
  a20 := Tryz.isAgg20
  z20 := Tryz.sizeOf20
  v20 := Tryz.zeroValue20
  t37 := Tryz.underlying32
  a37 := Tryz.isAgg32
  z37 := Tryz.sizeOf32
  v37 := Tryz.zeroValue32
  t46 := Tryz.underlying158
  a46 := Tryz.isAgg158
  z46 := Tryz.sizeOf158
  v46 := Tryz.zeroValue158
  t51 := Tryz.underlying166
  a51 := Tryz.isAgg166
  z51 := Tryz.sizeOf166
  v51 := Tryz.zeroValue166
  t53 := Tryz.underlying106
  a53 := Tryz.isAgg106
  z53 := Tryz.sizeOf106
  v53 := Tryz.zeroValue106
  t171 := Tryz.underlying169
  a171 := Tryz.isAgg169
  z171 := Tryz.sizeOf169
  v171 := Tryz.zeroValue169
  t173 := Tryz.underlying172
  a173 := Tryz.isAgg172
  z173 := Tryz.sizeOf172
  v173 := Tryz.zeroValue172
  t212 := Tryz.underlying185
  a212 := Tryz.isAgg185
  z212 := Tryz.sizeOf185
  v212 := Tryz.zeroValue185
  t213 := Tryz.underlying186
  a213 := Tryz.isAgg186
  z213 := Tryz.sizeOf186
  t232 := Tryz.underlying191
  a232 := Tryz.isAgg191
  z232 := Tryz.sizeOf191
  v232 := Tryz.zeroValue191
  t233 := Tryz.underlying192
  a233 := Tryz.isAgg192
  z233 := Tryz.sizeOf192
  v233 := Tryz.zeroValue192
  g17 := by kernel_rfl
  g18 := by kernel_rfl
  g19 := by kernel_rfl }
open Go.RowKit Go.Sort Go.Lib in
theorem Tryz.strconv_Itoa_small (i : Nat) (hi : i < 100) (w : World) :
    Calls Tryz.prog 61 #[.int .i64 i] w fun e w' => e = .returned (.string ⟨(Lib.decDigits i).toArray⟩) ∧ w' = w := Any.strconv_Itoa_small Tryz.lays171 i hi w
def Tryz.lays157_ren : Go.Shelf.Ren := ⟨fun | 157 => 110 | 229 => 136 | 199 => 137 | 261 => 139 | 311 => 144 | 312 => 145 | n => n, fun | 9 => 9 | 31 => 22 | 3 => 3 | 5 => 5 | 4 => 4 | 119 => 159 | 0 => 0 | 40 => 161 | 152 => 163 | 21 => 21 | 154 => 165 | 51 => 166 | 141 => 168 | 196 => 177 | 193 => 174 | 198 => 180 | 49 => 178 | 194 => 175 | 201 => 183 | 226 => 188 | 46 => 158 | 227 => 189 | n => n, fun | 0 => 0 | 6 => 1 | n => n⟩
theorem Tryz.lays157 : Go.Proofs.Lays.n157 Tryz.prog Tryz.lays157_ren := {
  mixed := by kernel_rfl
  f157 := Tryz.func110.trans (congrArg some (by kernel_rfl))
  f199 := Tryz.func137.trans (congrArg some (by kernel_rfl))
  f229 := Tryz.func136.trans (congrArg some (by kernel_rfl))
  f261 := Tryz.func139.trans (congrArg some (by kernel_rfl))
  f311 := Tryz.func144.trans (congrArg some (by kernel_rfl))
  f312 := Tryz.func145.trans (congrArg some (by kernel_rfl))
  t0 := Tryz.underlying0
  a0 := Tryz.isAgg0
  z0 := Tryz.sizeOf0
  v0 := Tryz.zeroValue0
  t3 := Tryz.underlying3
  a3 := Tryz.isAgg3
  z3 := Tryz.sizeOf3
  v3 := Tryz.zeroValue3
  t4 := Tryz.underlying4
  a4 := Tryz.isAgg4
  z4 := Tryz.sizeOf4
  v4 := Tryz.zeroValue4
  t5 := Tryz.underlying5
  a5 := Tryz.isAgg5
  z5 := Tryz.sizeOf5
  v5 := Tryz.zeroValue5
  t9 := Tryz.underlying9
  a9 := Tryz.isAgg9
  z9 := Tryz.sizeOf9
  v9 := Tryz.zeroValue9
  t21 := Tryz.underlying21
  a21 := Tryz.isAgg21
  z21 := Tryz.sizeOf21
  v21 := Tryz.zeroValue21
  t31 := Tryz.underlying22
  a31 := Tryz.isAgg22
  z31 := Tryz.sizeOf22
  v31 := Tryz.zeroValue22
  t40 := Tryz.underlying161
  a40 := Tryz.isAgg161
  z40 := Tryz.sizeOf161
  v40 := Tryz.zeroValue161
  t46 := Tryz.underlying158
  a46 := Tryz.isAgg158
  z46 := Tryz.sizeOf158
  v46 := Tryz.zeroValue158
  t49 := Tryz.underlying178
  a49 := Tryz.isAgg178
  z49 := Tryz.sizeOf178
  v49 := Tryz.zeroValue178
  t51 := Tryz.underlying166
  a51 := Tryz.isAgg166
  z51 := Tryz.sizeOf166
  v51 := Tryz.zeroValue166
  t119 := Tryz.underlying159
  a119 := Tryz.isAgg159
  z119 := Tryz.sizeOf159
  t141 := Tryz.underlying168
  a141 := Tryz.isAgg168
  z141 := Tryz.sizeOf168
  v141 := Tryz.zeroValue168
  t152 := Tryz.underlying163
  a152 := Tryz.isAgg163
  z152 := Tryz.sizeOf163
  v152 := Tryz.zeroValue163
  t154 := Tryz.underlying165
  a154 := Tryz.isAgg165
  z154 := Tryz.sizeOf165
  v154 := Tryz.zeroValue165
  t193 := Tryz.underlying174
  a193 := Tryz.isAgg174
  z193 := Tryz.sizeOf174
  v193 := Tryz.zeroValue174
  t194 := Tryz.underlying175
  a194 := Tryz.isAgg175
  z194 := Tryz.sizeOf175
  v194 := Tryz.zeroValue175
  t196 := Tryz.underlying177
  a196 := Tryz.isAgg177
  z196 := Tryz.sizeOf177
  v196 := Tryz.zeroValue177
  t198 := Tryz.underlying180
  a198 := Tryz.isAgg180
  z198 := Tryz.sizeOf180
  v198 := Tryz.zeroValue180
  t201 := Tryz.underlying183
  a201 := Tryz.isAgg183
  z201 := Tryz.sizeOf183
  v201 := Tryz.zeroValue183
  t226 := Tryz.underlying188
  a226 := Tryz.isAgg188
  z226 := Tryz.sizeOf188
  v226 := Tryz.zeroValue188
  t227 := Tryz.underlying189
  a227 := Tryz.isAgg189
  z227 := Tryz.sizeOf189
  v227 := Tryz.zeroValue189
  g0 := by kernel_rfl
  g6 := by kernel_rfl }
open Go.RowKit Go.Lib in
theorem Tryz.strings_Fields (s : ByteArray) (w : World) (hs : s.size < 4294967281) (hascii : ∀ (j : Nat) b, s.data.toList[j]? = some b → b.toNat < 128) (htab : Lib.TabIs Tryz.prog w "strings.asciiSpace" .u8 Lib.asciiSpaceTab) :
    Calls Tryz.prog 110 #[.string s] w fun e w' =>
      e = .returned (.slice (some ⟨w.heap.size, 0, none⟩) (Lib.fields s.data.toList).length (Lib.fields s.data.toList).length) ∧ w' = w.alloc (.cells ((Lib.fields s.data.toList).map fun l => Value.string ⟨l.toArray⟩).toArray 9) := Any.strings_Fields Tryz.lays157 (by kernel_rfl) (by kernel_rfl) s w hs hascii htab
end Go.Proofs
