/- Part 4 of the texts of this claim: the engine, contracts, plain laws. -/
import Derived.Test.YtaifphjenebgoaaDoorProg
import Derived.Test.YtaifphjenebgoaaDoorZCApart15P1
import Derived.Shelf.Strconv.Itoa0
import Derived.Shelf.Strconv.Itoa1
import Derived.Shelf.LaysM
import Derived.Shelf.Strconv.Itoa2
import Derived.Shelf.Strconv.Itoa3
import Derived.Shelf.Strings.Search1
import Derived.Shelf.Strings.Search2
import Derived.Shelf.Strings.Search3
import Derived.Shelf.Strings.Shaped
import Derived.Shelf.Strings.Prefix
import Derived.Shelf.Strings.Fields
import Derived.Shelf.Strings.SplitShaped
import Derived.Shelf.Unicode.Latin
import Derived.Shelf.Unicode.Is16White
import Derived.Shelf.Unicode.IsSpaceAny
import Derived.Shelf.Unicode.Is16Any
import Derived.Shelf.Unicode.Is32Any
import Derived.Shelf.Unicode.ExclAny
import Derived.Test.YtaifphjenebgoaaDoorZCApart15P3
import Derived.Test.YtaifphjenebgoaaDoorZCApart15P2
/- The preconditions of Go functions, printed by a program of this workplace (nests.py); each is proved to be the engine's own. -/
set_option linter.unusedVariables false
set_option maxRecDepth 100000
namespace Go.Proofs.YtaifphjenebgoaaDoor
open Go Go.Sx
noncomputable def code_Check.W : Int → Int → Int → Option Addr → Nat → Nat → Option Addr → Nat → Nat → Option Addr → Nat → Nat → Option Addr → Nat → Nat → Option Addr → Nat → Nat → Option Addr → Nat →
 Nat → World → (Value → World → Prop) → Prop := fun (p0 p1 p2 : Int) (p3_A : Option Go.Addr) (p3_n p3_c : Nat) (p4_A : Option Go.Addr) (p4_n p4_c : Nat) (p5_A : Option Go.Addr) (p5_n p5_c : Nat) (p6_A :
 Option Go.Addr) (p6_n p6_c : Nat) (p7_A : Option Go.Addr) (p7_n p7_c : Nat) (p8_A : Option Go.Addr) (p8_n p8_c : Nat) (w : Go.World) (K : Go.Value → Go.World → Prop) => ∀ (g : Nat) (w' : Go.World),
 Go.Sx.Fresh w g w' [Go.Value.int Go.IntKind.i64 p0, Go.Value.int Go.IntKind.i64 p1, Go.Value.int Go.IntKind.i64 p2, Go.Value.slice p3_A p3_n p3_c, Go.Value.slice p4_A p4_n p4_c, Go.Value.slice p5_A
 p5_n p5_c, Go.Value.slice p6_A p6_n p6_c, Go.Value.slice p7_A p7_n p7_c, Go.Value.slice p8_A p8_n p8_c] (29 : Nat) → ∃ (x : Int), Go.World.cell? w' (Go.Addr.add (Go.Addr.mk g (0 : Nat) Option.none) (0
 : Nat)) = Option.some (Go.Value.int Go.IntKind.i64 x) ∧ ∃ (x_1 : Int), Go.World.cell? w' (Go.Addr.add (Go.Addr.mk g (0 : Nat) Option.none) (1 : Nat)) = Option.some (Go.Value.int Go.IntKind.i64 x_1) ∧ ∃
 (x_2 : Int), Go.World.cell? w' (Go.Addr.add (Go.Addr.mk g (0 : Nat) Option.none) (2 : Nat)) = Option.some (Go.Value.int Go.IntKind.i64 x_2) ∧ ∃ (x_3 : Option Go.Addr), ∃ (x_4 : Nat), ∃ (x_5 : Nat),
 Go.World.cell? w' (Go.Addr.add (Go.Addr.mk g (0 : Nat) Option.none) (3 : Nat)) = Option.some (Go.Value.slice x_3 x_4 x_5) ∧ ∃ (x_6 : Option Go.Addr), ∃ (x_7 : Nat), ∃ (x_8 : Nat), Go.World.cell? w'
 (Go.Addr.add (Go.Addr.mk g (0 : Nat) Option.none) (4 : Nat)) = Option.some (Go.Value.slice x_6 x_7 x_8) ∧ ∃ (x_9 : Option Go.Addr), ∃ (x_10 : Nat), ∃ (x_11 : Nat), Go.World.cell? w' (Go.Addr.add
 (Go.Addr.mk g (0 : Nat) Option.none) (5 : Nat)) = Option.some (Go.Value.slice x_9 x_10 x_11) ∧ ∃ (x_12 : Option Go.Addr), ∃ (x_13 : Nat), ∃ (x_14 : Nat), Go.World.cell? w' (Go.Addr.add (Go.Addr.mk g (0
 : Nat) Option.none) (6 : Nat)) = Option.some (Go.Value.slice x_12 x_13 x_14) ∧ ∃ (x_15 : Option Go.Addr), ∃ (x_16 : Nat), ∃ (x_17 : Nat), Go.World.cell? w' (Go.Addr.add (Go.Addr.mk g (0 : Nat)
 Option.none) (7 : Nat)) = Option.some (Go.Value.slice x_15 x_16 x_17) ∧ ∃ (x_18 : Option Go.Addr), ∃ (x_19 : Nat), ∃ (x_20 : Nat), Go.World.cell? w' (Go.Addr.add (Go.Addr.mk g (0 : Nat) Option.none) (8
 : Nat)) = Option.some (Go.Value.slice x_18 x_19 x_20) ∧ Go.Sx.CallsV Go.Proofs.Tryd.prog (18 : Nat) #[Go.Value.agg #[Go.Value.int Go.IntKind.i64 x, Go.Value.int Go.IntKind.i64 x_1, Go.Value.int
 Go.IntKind.i64 x_2, Go.Value.slice x_3 x_4 x_5, Go.Value.slice x_6 x_7 x_8, Go.Value.slice x_9 x_10 x_11, Go.Value.slice x_12 x_13 x_14, Go.Value.slice x_15 x_16 x_17, Go.Value.slice x_18 x_19 x_20]]
 w' fun (v : Go.Value) (w' : Go.World) => ∃ (x : Bool), v = Go.Value.bool x ∧ bif !x then K (Go.Value.int Go.IntKind.i64 (140 : Int)) w' else ∃ (x : Option Go.Addr), ∃ (x_21 : Nat), ∃ (x_22 : Nat),
 Go.World.cell? w' (Go.Addr.add (Go.Addr.mk g (0 : Nat) Option.none) (8 : Nat)) = Option.some (Go.Value.slice x x_21 x_22) ∧ bif Decidable.decide ((↑x_21 : Int) < (1 : Int)) then K (Go.Value.int
 Go.IntKind.i64 (140 : Int)) w' else ∃ (x : Option Go.Addr), ∃ (x_23 : Nat), ∃ (x_24 : Nat), Go.World.cell? w' (Go.Addr.add (Go.Addr.mk g (0 : Nat) Option.none) (8 : Nat)) = Option.some (Go.Value.slice
 x x_23 x_24) ∧ bif Decidable.decide ((4000 : Int) < (↑x_23 : Int)) then K (Go.Value.int Go.IntKind.i64 (140 : Int)) w' else ∃ (x : Option Go.Addr), ∃ (x_25 : Nat), ∃ (x_26 : Nat), Go.World.cell? w'
 (Go.Addr.add (Go.Addr.mk g (0 : Nat) Option.none) (8 : Nat)) = Option.some (Go.Value.slice x x_25 x_26) ∧ ∃ (x_27 : Option Go.Addr), ∃ (x_28 : Nat), ∃ (x_29 : Nat), Go.World.cell? w' (Go.Addr.add
 (Go.Addr.mk g (0 : Nat) Option.none) (8 : Nat)) = Option.some (Go.Value.slice x_27 x_28 x_29) ∧ ∃ (ad : Go.Addr), x = Option.some ad ∧ ((0 : Int) ≤ Go.IntKind.wrap Go.IntKind.i64 ((↑x_28 : Int) - (1 :
 Int)) ∧ Go.IntKind.wrap Go.IntKind.i64 ((↑x_28 : Int) - (1 : Int)) < (↑x_25 : Int)) ∧ ∃ (x : Int), Go.World.cell? w' (Go.Addr.add (Go.Addr.add ad (Int.toNat (Go.IntKind.wrap Go.IntKind.i64 ((↑x_28 :
 Int) - (1 : Int))) * (5 : Nat))) (0 : Nat)) = Option.some (Go.Value.int Go.IntKind.u8 x) ∧ bif !Decidable.decide (x = (35 : Int)) then K (Go.Value.int Go.IntKind.i64 (140 : Int)) w' else ∃ (x : Option
 Go.Addr), ∃ (x_30 : Nat), ∃ (x_31 : Nat), Go.World.cell? w' (Go.Addr.add (Go.Addr.mk g (0 : Nat) Option.none) (8 : Nat)) = Option.some (Go.Value.slice x x_30 x_31) ∧ ∃ (I : Int → Go.World → Prop), ∃ (μ
 : Int → Go.World → Nat), I (0 : Int) w' ∧ ∀ (x_32 : Int) (w : Go.World), I x_32 w → bif Decidable.decide (x_32 < (↑x_30 : Int)) then ∃ (ad : Go.Addr), x = Option.some ad ∧ ((0 : Int) ≤ x_32 ∧ x_32 <
 (↑x_30 : Int)) ∧ ∃ (x : Int), Go.World.cell? w (Go.Addr.add (Go.Addr.add ad (Int.toNat x_32 * (5 : Nat))) (0 : Nat)) = Option.some (Go.Value.int Go.IntKind.u8 x) ∧ ∃ (x_33 : Int), Go.World.cell? w
 (Go.Addr.add (Go.Addr.add ad (Int.toNat x_32 * (5 : Nat))) (1 : Nat)) = Option.some (Go.Value.int Go.IntKind.i64 x_33) ∧ ∃ (x_34 : Int), Go.World.cell? w (Go.Addr.add (Go.Addr.add ad (Int.toNat x_32 *
 (5 : Nat))) (2 : Nat)) = Option.some (Go.Value.int Go.IntKind.i64 x_34) ∧ ∃ (x_35 : Int), Go.World.cell? w (Go.Addr.add (Go.Addr.add ad (Int.toNat x_32 * (5 : Nat))) (3 : Nat)) = Option.some
 (Go.Value.int Go.IntKind.i64 x_35) ∧ ∃ (x_36 : Int), Go.World.cell? w (Go.Addr.add (Go.Addr.add ad (Int.toNat x_32 * (5 : Nat))) (4 : Nat)) = Option.some (Go.Value.int Go.IntKind.i64 x_36) ∧ ∀ (g_1 :
 Nat) (w' : Go.World), Go.Sx.Fresh w g_1 w' [Go.Value.int Go.IntKind.u8 (0 : Int), Go.Value.int Go.IntKind.i64 (0 : Int), Go.Value.int Go.IntKind.i64 (0 : Int), Go.Value.int Go.IntKind.i64 (0 : Int),
 Go.Value.int Go.IntKind.i64 (0 : Int)] (38 : Nat) → Go.Sx.stOK (Go.Addr.mk g_1 (0 : Nat) Option.none) (0 : Nat) [Go.Value.int Go.IntKind.u8 x, Go.Value.int Go.IntKind.i64 x_33, Go.Value.int
 Go.IntKind.i64 x_34, Go.Value.int Go.IntKind.i64 x_35, Go.Value.int Go.IntKind.i64 x_36] w' ∧ ∀ (w'_1 : Go.World), w'_1 = Go.Sx.setAll (Go.Addr.mk g_1 (0 : Nat) Option.none) (0 : Nat) [Go.Value.int
 Go.IntKind.u8 x, Go.Value.int Go.IntKind.i64 x_33, Go.Value.int Go.IntKind.i64 x_34, Go.Value.int Go.IntKind.i64 x_35, Go.Value.int Go.IntKind.i64 x_36] w' → ∃ (x : Int), Go.World.cell? w'_1
 (Go.Addr.add (Go.Addr.mk g_1 (0 : Nat) Option.none) (0 : Nat)) = Option.some (Go.Value.int Go.IntKind.u8 x) ∧ Go.Sx.CallsV Go.Proofs.Tryd.prog (19 : Nat) #[Go.Value.int Go.IntKind.u8 x] w'_1 fun (v :
 Go.Value) (w' : Go.World) => ∃ (x : ByteArray), v = Go.Value.string x ∧ bif ByteArray.toList x == ByteArray.toList (ByteArray.mk #[]) then K (Go.Value.int Go.IntKind.i64 (140 : Int)) w' else ∃ (x_37 :
 Int), Go.World.cell? w' (Go.Addr.add (Go.Addr.mk g_1 (0 : Nat) Option.none) (1 : Nat)) = Option.some (Go.Value.int Go.IntKind.i64 x_37) ∧ ∃ (x_38 : Int), Go.World.cell? w' (Go.Addr.add (Go.Addr.mk g_1
 (0 : Nat) Option.none) (2 : Nat)) = Option.some (Go.Value.int Go.IntKind.i64 x_38) ∧ ∃ (x_39 : Int), Go.World.cell? w' (Go.Addr.add (Go.Addr.mk g_1 (0 : Nat) Option.none) (3 : Nat)) = Option.some
 (Go.Value.int Go.IntKind.i64 x_39) ∧ ∃ (x_40 : Int), Go.World.cell? w' (Go.Addr.add (Go.Addr.mk g_1 (0 : Nat) Option.none) (4 : Nat)) = Option.some (Go.Value.int Go.IntKind.i64 x_40) ∧ ∃ (I_1 : Int →
 Go.World → Prop), ∃ (μ_1 : Int → Go.World → Nat), I_1 (0 : Int) w' ∧ ∀ (x_41 : Int) (w_1 : Go.World), I_1 x_41 w_1 → bif Decidable.decide (x_41 < (4 : Int)) then ((0 : Int) ≤ x_41 ∧ x_41 < (↑(4 : Nat)
 : Int)) ∧ bif Decidable.decide (x_41 = (↑(0 : Nat) : Int)) then ∃ (S : Go.World → Prop), S (Go.World.drew w_1) ∧ ∃ (x_42 : Int), (∀ (u : Go.World), S u → Go.World.cell? u (Go.Addr.add (Go.Addr.mk g (0
 : Nat) Option.none) (0 : Nat)) = Option.some (Go.Value.int Go.IntKind.i64 x_42)) ∧ ∃ (x_43 : Int), (∀ (u : Go.World), S u → Go.World.cell? u (Go.Addr.add (Go.Addr.mk g (0 : Nat) Option.none) (1 : Nat))
 = Option.some (Go.Value.int Go.IntKind.i64 x_43)) ∧ ∃ (x_44 : Int), (∀ (u : Go.World), S u → Go.World.cell? u (Go.Addr.add (Go.Addr.mk g (0 : Nat) Option.none) (2 : Nat)) = Option.some (Go.Value.int
 Go.IntKind.i64 x_44)) ∧ ∃ (x_45 : Option Go.Addr), ∃ (x_46 : Nat), ∃ (x_47 : Nat), (∀ (u : Go.World), S u → Go.World.cell? u (Go.Addr.add (Go.Addr.mk g (0 : Nat) Option.none) (3 : Nat)) = Option.some
 (Go.Value.slice x_45 x_46 x_47)) ∧ ∃ (x_48 : Option Go.Addr), ∃ (x_49 : Nat), ∃ (x_50 : Nat), (∀ (u : Go.World), S u → Go.World.cell? u (Go.Addr.add (Go.Addr.mk g (0 : Nat) Option.none) (4 : Nat)) =
 Option.some (Go.Value.slice x_48 x_49 x_50)) ∧ ∃ (x_51 : Option Go.Addr), ∃ (x_52 : Nat), ∃ (x_53 : Nat), (∀ (u : Go.World), S u → Go.World.cell? u (Go.Addr.add (Go.Addr.mk g (0 : Nat) Option.none) (5
 : Nat)) = Option.some (Go.Value.slice x_51 x_52 x_53)) ∧ ∃ (x_54 : Option Go.Addr), ∃ (x_55 : Nat), ∃ (x_56 : Nat), (∀ (u : Go.World), S u → Go.World.cell? u (Go.Addr.add (Go.Addr.mk g (0 : Nat)
 Option.none) (6 : Nat)) = Option.some (Go.Value.slice x_54 x_55 x_56)) ∧ ∃ (x_57 : Option Go.Addr), ∃ (x_58 : Nat), ∃ (x_59 : Nat), (∀ (u : Go.World), S u → Go.World.cell? u (Go.Addr.add (Go.Addr.mk g
 (0 : Nat) Option.none) (7 : Nat)) = Option.some (Go.Value.slice x_57 x_58 x_59)) ∧ ∃ (x_60 : Option Go.Addr), ∃ (x_61 : Nat), ∃ (x_62 : Nat), (∀ (u : Go.World), S u → Go.World.cell? u (Go.Addr.add
 (Go.Addr.mk g (0 : Nat) Option.none) (8 : Nat)) = Option.some (Go.Value.slice x_60 x_61 x_62)) ∧ ∃ (b : UInt8), ((0 : Int) ≤ x_41 ∧ x[Int.toNat x_41]? = Option.some b) ∧ Go.Sx.CallsV
 Go.Proofs.Tryd.prog (20 : Nat) #[Go.Value.agg #[Go.Value.int Go.IntKind.i64 x_42, Go.Value.int Go.IntKind.i64 x_43, Go.Value.int Go.IntKind.i64 x_44, Go.Value.slice x_45 x_46 x_47, Go.Value.slice x_48
 x_49 x_50, Go.Value.slice x_51 x_52 x_53, Go.Value.slice x_54 x_55 x_56, Go.Value.slice x_57 x_58 x_59, Go.Value.slice x_60 x_61 x_62], Go.Value.int Go.IntKind.i64 x_32, Go.Value.int Go.IntKind.u8
 (↑(UInt8.toNat b) : Int), Go.Value.int Go.IntKind.i64 x_37] (Go.World.drew w_1) fun (v : Go.Value) (w' : Go.World) => ∃ (x : Bool), v = Go.Value.bool x ∧ bif !x then K (Go.Value.int Go.IntKind.i64 (140
 : Int)) w' else I_1 (Go.IntKind.wrap Go.IntKind.i64 (x_41 + (1 : Int))) w' ∧ μ_1 (Go.IntKind.wrap Go.IntKind.i64 (x_41 + (1 : Int))) w' < μ_1 x_41 w_1 else bif Decidable.decide (x_41 = (↑(1 : Nat) :
 Int)) then ∃ (S : Go.World → Prop), S (Go.World.drew w_1) ∧ ∃ (x_42 : Int), (∀ (u : Go.World), S u → Go.World.cell? u (Go.Addr.add (Go.Addr.mk g (0 : Nat) Option.none) (0 : Nat)) = Option.some
 (Go.Value.int Go.IntKind.i64 x_42)) ∧ ∃ (x_43 : Int), (∀ (u : Go.World), S u → Go.World.cell? u (Go.Addr.add (Go.Addr.mk g (0 : Nat) Option.none) (1 : Nat)) = Option.some (Go.Value.int Go.IntKind.i64
 x_43)) ∧ ∃ (x_44 : Int), (∀ (u : Go.World), S u → Go.World.cell? u (Go.Addr.add (Go.Addr.mk g (0 : Nat) Option.none) (2 : Nat)) = Option.some (Go.Value.int Go.IntKind.i64 x_44)) ∧ ∃ (x_45 : Option
 Go.Addr), ∃ (x_46 : Nat), ∃ (x_47 : Nat), (∀ (u : Go.World), S u → Go.World.cell? u (Go.Addr.add (Go.Addr.mk g (0 : Nat) Option.none) (3 : Nat)) = Option.some (Go.Value.slice x_45 x_46 x_47)) ∧ ∃ (x_48
 : Option Go.Addr), ∃ (x_49 : Nat), ∃ (x_50 : Nat), (∀ (u : Go.World), S u → Go.World.cell? u (Go.Addr.add (Go.Addr.mk g (0 : Nat) Option.none) (4 : Nat)) = Option.some (Go.Value.slice x_48 x_49 x_50))
 ∧ ∃ (x_51 : Option Go.Addr), ∃ (x_52 : Nat), ∃ (x_53 : Nat), (∀ (u : Go.World), S u → Go.World.cell? u (Go.Addr.add (Go.Addr.mk g (0 : Nat) Option.none) (5 : Nat)) = Option.some (Go.Value.slice x_51
 x_52 x_53)) ∧ ∃ (x_54 : Option Go.Addr), ∃ (x_55 : Nat), ∃ (x_56 : Nat), (∀ (u : Go.World), S u → Go.World.cell? u (Go.Addr.add (Go.Addr.mk g (0 : Nat) Option.none) (6 : Nat)) = Option.some
 (Go.Value.slice x_54 x_55 x_56)) ∧ ∃ (x_57 : Option Go.Addr), ∃ (x_58 : Nat), ∃ (x_59 : Nat), (∀ (u : Go.World), S u → Go.World.cell? u (Go.Addr.add (Go.Addr.mk g (0 : Nat) Option.none) (7 : Nat)) =
 Option.some (Go.Value.slice x_57 x_58 x_59)) ∧ ∃ (x_60 : Option Go.Addr), ∃ (x_61 : Nat), ∃ (x_62 : Nat), (∀ (u : Go.World), S u → Go.World.cell? u (Go.Addr.add (Go.Addr.mk g (0 : Nat) Option.none) (8
 : Nat)) = Option.some (Go.Value.slice x_60 x_61 x_62)) ∧ ∃ (b : UInt8), ((0 : Int) ≤ x_41 ∧ x[Int.toNat x_41]? = Option.some b) ∧ Go.Sx.CallsV Go.Proofs.Tryd.prog (20 : Nat) #[Go.Value.agg
 #[Go.Value.int Go.IntKind.i64 x_42, Go.Value.int Go.IntKind.i64 x_43, Go.Value.int Go.IntKind.i64 x_44, Go.Value.slice x_45 x_46 x_47, Go.Value.slice x_48 x_49 x_50, Go.Value.slice x_51 x_52 x_53,
 Go.Value.slice x_54 x_55 x_56, Go.Value.slice x_57 x_58 x_59, Go.Value.slice x_60 x_61 x_62], Go.Value.int Go.IntKind.i64 x_32, Go.Value.int Go.IntKind.u8 (↑(UInt8.toNat b) : Int), Go.Value.int
 Go.IntKind.i64 x_38] (Go.World.drew w_1) fun (v : Go.Value) (w' : Go.World) => ∃ (x : Bool), v = Go.Value.bool x ∧ bif !x then K (Go.Value.int Go.IntKind.i64 (140 : Int)) w' else I_1 (Go.IntKind.wrap
 Go.IntKind.i64 (x_41 + (1 : Int))) w' ∧ μ_1 (Go.IntKind.wrap Go.IntKind.i64 (x_41 + (1 : Int))) w' < μ_1 x_41 w_1 else bif Decidable.decide (x_41 = (↑(2 : Nat) : Int)) then ∃ (S : Go.World → Prop), S
 (Go.World.drew w_1) ∧ ∃ (x_42 : Int), (∀ (u : Go.World), S u → Go.World.cell? u (Go.Addr.add (Go.Addr.mk g (0 : Nat) Option.none) (0 : Nat)) = Option.some (Go.Value.int Go.IntKind.i64 x_42)) ∧ ∃ (x_43
 : Int), (∀ (u : Go.World), S u → Go.World.cell? u (Go.Addr.add (Go.Addr.mk g (0 : Nat) Option.none) (1 : Nat)) = Option.some (Go.Value.int Go.IntKind.i64 x_43)) ∧ ∃ (x_44 : Int), (∀ (u : Go.World), S u
 → Go.World.cell? u (Go.Addr.add (Go.Addr.mk g (0 : Nat) Option.none) (2 : Nat)) = Option.some (Go.Value.int Go.IntKind.i64 x_44)) ∧ ∃ (x_45 : Option Go.Addr), ∃ (x_46 : Nat), ∃ (x_47 : Nat), (∀ (u :
 Go.World), S u → Go.World.cell? u (Go.Addr.add (Go.Addr.mk g (0 : Nat) Option.none) (3 : Nat)) = Option.some (Go.Value.slice x_45 x_46 x_47)) ∧ ∃ (x_48 : Option Go.Addr), ∃ (x_49 : Nat), ∃ (x_50 :
 Nat), (∀ (u : Go.World), S u → Go.World.cell? u (Go.Addr.add (Go.Addr.mk g (0 : Nat) Option.none) (4 : Nat)) = Option.some (Go.Value.slice x_48 x_49 x_50)) ∧ ∃ (x_51 : Option Go.Addr), ∃ (x_52 : Nat),
 ∃ (x_53 : Nat), (∀ (u : Go.World), S u → Go.World.cell? u (Go.Addr.add (Go.Addr.mk g (0 : Nat) Option.none) (5 : Nat)) = Option.some (Go.Value.slice x_51 x_52 x_53)) ∧ ∃ (x_54 : Option Go.Addr), ∃
 (x_55 : Nat), ∃ (x_56 : Nat), (∀ (u : Go.World), S u → Go.World.cell? u (Go.Addr.add (Go.Addr.mk g (0 : Nat) Option.none) (6 : Nat)) = Option.some (Go.Value.slice x_54 x_55 x_56)) ∧ ∃ (x_57 : Option
 Go.Addr), ∃ (x_58 : Nat), ∃ (x_59 : Nat), (∀ (u : Go.World), S u → Go.World.cell? u (Go.Addr.add (Go.Addr.mk g (0 : Nat) Option.none) (7 : Nat)) = Option.some (Go.Value.slice x_57 x_58 x_59)) ∧ ∃ (x_60
 : Option Go.Addr), ∃ (x_61 : Nat), ∃ (x_62 : Nat), (∀ (u : Go.World), S u → Go.World.cell? u (Go.Addr.add (Go.Addr.mk g (0 : Nat) Option.none) (8 : Nat)) = Option.some (Go.Value.slice x_60 x_61 x_62))
 ∧ ∃ (b : UInt8), ((0 : Int) ≤ x_41 ∧ x[Int.toNat x_41]? = Option.some b) ∧ Go.Sx.CallsV Go.Proofs.Tryd.prog (20 : Nat) #[Go.Value.agg #[Go.Value.int Go.IntKind.i64 x_42, Go.Value.int Go.IntKind.i64
 x_43, Go.Value.int Go.IntKind.i64 x_44, Go.Value.slice x_45 x_46 x_47, Go.Value.slice x_48 x_49 x_50, Go.Value.slice x_51 x_52 x_53, Go.Value.slice x_54 x_55 x_56, Go.Value.slice x_57 x_58 x_59,
 Go.Value.slice x_60 x_61 x_62], Go.Value.int Go.IntKind.i64 x_32, Go.Value.int Go.IntKind.u8 (↑(UInt8.toNat b) : Int), Go.Value.int Go.IntKind.i64 x_39] (Go.World.drew w_1) fun (v : Go.Value) (w' :
 Go.World) => ∃ (x : Bool), v = Go.Value.bool x ∧ bif !x then K (Go.Value.int Go.IntKind.i64 (140 : Int)) w' else I_1 (Go.IntKind.wrap Go.IntKind.i64 (x_41 + (1 : Int))) w' ∧ μ_1 (Go.IntKind.wrap
 Go.IntKind.i64 (x_41 + (1 : Int))) w' < μ_1 x_41 w_1 else bif Decidable.decide (x_41 = (↑(3 : Nat) : Int)) then ∃ (S : Go.World → Prop), S (Go.World.drew w_1) ∧ ∃ (x_42 : Int), (∀ (u : Go.World), S u →
 Go.World.cell? u (Go.Addr.add (Go.Addr.mk g (0 : Nat) Option.none) (0 : Nat)) = Option.some (Go.Value.int Go.IntKind.i64 x_42)) ∧ ∃ (x_43 : Int), (∀ (u : Go.World), S u → Go.World.cell? u (Go.Addr.add
 (Go.Addr.mk g (0 : Nat) Option.none) (1 : Nat)) = Option.some (Go.Value.int Go.IntKind.i64 x_43)) ∧ ∃ (x_44 : Int), (∀ (u : Go.World), S u → Go.World.cell? u (Go.Addr.add (Go.Addr.mk g (0 : Nat)
 Option.none) (2 : Nat)) = Option.some (Go.Value.int Go.IntKind.i64 x_44)) ∧ ∃ (x_45 : Option Go.Addr), ∃ (x_46 : Nat), ∃ (x_47 : Nat), (∀ (u : Go.World), S u → Go.World.cell? u (Go.Addr.add (Go.Addr.mk
 g (0 : Nat) Option.none) (3 : Nat)) = Option.some (Go.Value.slice x_45 x_46 x_47)) ∧ ∃ (x_48 : Option Go.Addr), ∃ (x_49 : Nat), ∃ (x_50 : Nat), (∀ (u : Go.World), S u → Go.World.cell? u (Go.Addr.add
 (Go.Addr.mk g (0 : Nat) Option.none) (4 : Nat)) = Option.some (Go.Value.slice x_48 x_49 x_50)) ∧ ∃ (x_51 : Option Go.Addr), ∃ (x_52 : Nat), ∃ (x_53 : Nat), (∀ (u : Go.World), S u → Go.World.cell? u
 (Go.Addr.add (Go.Addr.mk g (0 : Nat) Option.none) (5 : Nat)) = Option.some (Go.Value.slice x_51 x_52 x_53)) ∧ ∃ (x_54 : Option Go.Addr), ∃ (x_55 : Nat), ∃ (x_56 : Nat), (∀ (u : Go.World), S u →
 Go.World.cell? u (Go.Addr.add (Go.Addr.mk g (0 : Nat) Option.none) (6 : Nat)) = Option.some (Go.Value.slice x_54 x_55 x_56)) ∧ ∃ (x_57 : Option Go.Addr), ∃ (x_58 : Nat), ∃ (x_59 : Nat), (∀ (u :
 Go.World), S u → Go.World.cell? u (Go.Addr.add (Go.Addr.mk g (0 : Nat) Option.none) (7 : Nat)) = Option.some (Go.Value.slice x_57 x_58 x_59)) ∧ ∃ (x_60 : Option Go.Addr), ∃ (x_61 : Nat), ∃ (x_62 :
 Nat), (∀ (u : Go.World), S u → Go.World.cell? u (Go.Addr.add (Go.Addr.mk g (0 : Nat) Option.none) (8 : Nat)) = Option.some (Go.Value.slice x_60 x_61 x_62)) ∧ ∃ (b : UInt8), ((0 : Int) ≤ x_41 ∧
 x[Int.toNat x_41]? = Option.some b) ∧ Go.Sx.CallsV Go.Proofs.Tryd.prog (20 : Nat) #[Go.Value.agg #[Go.Value.int Go.IntKind.i64 x_42, Go.Value.int Go.IntKind.i64 x_43, Go.Value.int Go.IntKind.i64 x_44,
 Go.Value.slice x_45 x_46 x_47, Go.Value.slice x_48 x_49 x_50, Go.Value.slice x_51 x_52 x_53, Go.Value.slice x_54 x_55 x_56, Go.Value.slice x_57 x_58 x_59, Go.Value.slice x_60 x_61 x_62], Go.Value.int
 Go.IntKind.i64 x_32, Go.Value.int Go.IntKind.u8 (↑(UInt8.toNat b) : Int), Go.Value.int Go.IntKind.i64 x_40] (Go.World.drew w_1) fun (v : Go.Value) (w' : Go.World) => ∃ (x : Bool), v = Go.Value.bool x ∧
 bif !x then K (Go.Value.int Go.IntKind.i64 (140 : Int)) w' else I_1 (Go.IntKind.wrap Go.IntKind.i64 (x_41 + (1 : Int))) w' ∧ μ_1 (Go.IntKind.wrap Go.IntKind.i64 (x_41 + (1 : Int))) w' < μ_1 x_41 w_1
 else False else ∃ (x : Int), Go.World.cell? w_1 (Go.Addr.add (Go.Addr.mk g (0 : Nat) Option.none) (0 : Nat)) = Option.some (Go.Value.int Go.IntKind.i64 x) ∧ ∃ (x_42 : Int), Go.World.cell? w_1
 (Go.Addr.add (Go.Addr.mk g (0 : Nat) Option.none) (1 : Nat)) = Option.some (Go.Value.int Go.IntKind.i64 x_42) ∧ ∃ (x_43 : Int), Go.World.cell? w_1 (Go.Addr.add (Go.Addr.mk g (0 : Nat) Option.none) (2 :
 Nat)) = Option.some (Go.Value.int Go.IntKind.i64 x_43) ∧ ∃ (x_44 : Option Go.Addr), ∃ (x_45 : Nat), ∃ (x_46 : Nat), Go.World.cell? w_1 (Go.Addr.add (Go.Addr.mk g (0 : Nat) Option.none) (3 : Nat)) =
 Option.some (Go.Value.slice x_44 x_45 x_46) ∧ ∃ (x_47 : Option Go.Addr), ∃ (x_48 : Nat), ∃ (x_49 : Nat), Go.World.cell? w_1 (Go.Addr.add (Go.Addr.mk g (0 : Nat) Option.none) (4 : Nat)) = Option.some
 (Go.Value.slice x_47 x_48 x_49) ∧ ∃ (x_50 : Option Go.Addr), ∃ (x_51 : Nat), ∃ (x_52 : Nat), Go.World.cell? w_1 (Go.Addr.add (Go.Addr.mk g (0 : Nat) Option.none) (5 : Nat)) = Option.some
 (Go.Value.slice x_50 x_51 x_52) ∧ ∃ (x_53 : Option Go.Addr), ∃ (x_54 : Nat), ∃ (x_55 : Nat), Go.World.cell? w_1 (Go.Addr.add (Go.Addr.mk g (0 : Nat) Option.none) (6 : Nat)) = Option.some
 (Go.Value.slice x_53 x_54 x_55) ∧ ∃ (x_56 : Option Go.Addr), ∃ (x_57 : Nat), ∃ (x_58 : Nat), Go.World.cell? w_1 (Go.Addr.add (Go.Addr.mk g (0 : Nat) Option.none) (7 : Nat)) = Option.some
 (Go.Value.slice x_56 x_57 x_58) ∧ ∃ (x_59 : Option Go.Addr), ∃ (x_60 : Nat), ∃ (x_61 : Nat), Go.World.cell? w_1 (Go.Addr.add (Go.Addr.mk g (0 : Nat) Option.none) (8 : Nat)) = Option.some
 (Go.Value.slice x_59 x_60 x_61) ∧ Go.Sx.CallsV Go.Proofs.Tryd.prog (21 : Nat) #[Go.Value.agg #[Go.Value.int Go.IntKind.i64 x, Go.Value.int Go.IntKind.i64 x_42, Go.Value.int Go.IntKind.i64 x_43,
 Go.Value.slice x_44 x_45 x_46, Go.Value.slice x_47 x_48 x_49, Go.Value.slice x_50 x_51 x_52, Go.Value.slice x_53 x_54 x_55, Go.Value.slice x_56 x_57 x_58, Go.Value.slice x_59 x_60 x_61], Go.Value.int
 Go.IntKind.i64 x_32] w_1 fun (v : Go.Value) (w' : Go.World) => ∃ (x : Bool), v = Go.Value.bool x ∧ bif !x then K (Go.Value.int Go.IntKind.i64 (140 : Int)) w' else I (Go.IntKind.wrap Go.IntKind.i64
 (x_32 + (1 : Int))) w' ∧ μ (Go.IntKind.wrap Go.IntKind.i64 (x_32 + (1 : Int))) w' < μ x_32 w else K (Go.Value.int Go.IntKind.i64 (0 : Int)) w
theorem code_Check.eq (p0 : Int) (p1 : Int) (p2 : Int) (p3_A : Option Addr) (p3_n : Nat) (p3_c : Nat) (p4_A : Option Addr) (p4_n : Nat) (p4_c : Nat) (p5_A : Option Addr) (p5_n : Nat) (p5_c : Nat) (p6_A : Option Addr) (p6_n : Nat) (p6_c : Nat) (p7_A : Option Addr) (p7_n : Nat) (p7_c : Nat) (p8_A : Option Addr) (p8_n : Nat) (p8_c : Nat) (w : World) (K : Value → World → Prop) : code_Check.W p0 p1 p2 p3_A p3_n p3_c p4_A p4_n p4_c p5_A p5_n p5_c p6_A p6_n p6_c p7_A p7_n p7_c p8_A p8_n p8_c w K = fnW Tryd.prog Tryd.f8 (.named (.seq .auto (.seq .auto (.seq (.seq .auto (.block (.loop [(38, .one (.int .i64))] (.seq .auto (.seq .auto (.seq (.block (.seq .auto (.seq .auto (.seq .auto (.seq (.seq .auto (.block (.loop [(57, .one (.int .i64))] .auto))) .auto))))) .auto)))))) .auto)))) [.agg #[.int .i64 p0, .int .i64 p1, .int .i64 p2, .slice p3_A p3_n p3_c, .slice p4_A p4_n p4_c, .slice p5_A p5_n p5_c, .slice p6_A p6_n p6_c, .slice p7_A p7_n p7_c, .slice p8_A p8_n p8_c]] w K := by kernel_rfl
theorem code_Check.calls (ok : Okay Tryd.prog) {p0 : Int} {p1 : Int} {p2 : Int} {p3_A : Option Addr} {p3_n : Nat} {p3_c : Nat} {p4_A : Option Addr} {p4_n : Nat} {p4_c : Nat} {p5_A : Option Addr} {p5_n : Nat} {p5_c : Nat} {p6_A : Option Addr} {p6_n : Nat} {p6_c : Nat} {p7_A : Option Addr} {p7_n : Nat} {p7_c : Nat} {p8_A : Option Addr} {p8_n : Nat} {p8_c : Nat} {w : World} {K : Value → World → Prop} (h : code_Check.W p0 p1 p2 p3_A p3_n p3_c p4_A p4_n p4_c p5_A p5_n p5_c p6_A p6_n p6_c p7_A p7_n p7_c p8_A p8_n p8_c w K) : CallsV Tryd.prog 8 #[.agg #[.int .i64 p0, .int .i64 p1, .int .i64 p2, .slice p3_A p3_n p3_c, .slice p4_A p4_n p4_c, .slice p5_A p5_n p5_c, .slice p6_A p6_n p6_c, .slice p7_A p7_n p7_c, .slice p8_A p8_n p8_c]] w K :=
  fnW_calls ok Tryd.func8 (an := (.named (.seq .auto (.seq .auto (.seq (.seq .auto (.block (.loop [(38, .one (.int .i64))] (.seq .auto (.seq .auto (.seq (.block (.seq .auto (.seq .auto (.seq .auto (.seq (.seq .auto (.block (.loop [(57, .one (.int .i64))] .auto))) .auto))))) .auto)))))) .auto))))) (args := [.agg #[.int .i64 p0, .int .i64 p1, .int .i64 p2, .slice p3_A p3_n p3_c, .slice p4_A p4_n p4_c, .slice p5_A p5_n p5_c, .slice p6_A p6_n p6_c, .slice p7_A p7_n p7_c, .slice p8_A p8_n p8_c]]) (by rw [← code_Check.eq]; exact h)
noncomputable def code_parts_1.W : Int → Int → Int → World → (Value → World → Prop) → Prop := fun (n low high : Int) (w : Go.World) (K : Go.Value → Go.World → Prop) => bif Decidable.decide (low ≤ n)
 then K (Go.Value.bool (Decidable.decide (n ≤ high))) w else K (Go.Value.bool Bool.false) w
theorem code_parts_1.eq (n : Int) (low : Int) (high : Int) (w : World) (K : Value → World → Prop) : code_parts_1.W n low high w K = fnW Tryd.prog Tryd.f34 (.named .auto) [.int .i64 n, .int .i64 low, .int .i64 high] w K := by kernel_rfl
theorem code_parts_1.calls (ok : Okay Tryd.prog) {n : Int} {low : Int} {high : Int} {w : World} {K : Value → World → Prop} (h : code_parts_1.W n low high w K) : CallsV Tryd.prog 34 #[.int .i64 n, .int .i64 low, .int .i64 high] w K :=
  fnW_calls ok Tryd.func34 (an := (.named .auto)) (args := [.int .i64 n, .int .i64 low, .int .i64 high]) (by rw [← code_parts_1.eq]; exact h)
noncomputable def code_parts_2.W : ByteArray → World → (Value → World → Prop) → Prop := fun (s : ByteArray) (w : Go.World) (K : Go.Value → Go.World → Prop) => K (Go.Value.bool (Decidable.decide ((200 :
 Int) < (↑(ByteArray.size s) : Int)))) w
theorem code_parts_2.eq (s : ByteArray) (w : World) (K : Value → World → Prop) : code_parts_2.W s w K = fnW Tryd.prog Tryd.f35 (.named .auto) [.string s] w K := by kernel_rfl
theorem code_parts_2.calls (ok : Okay Tryd.prog) {s : ByteArray} {w : World} {K : Value → World → Prop} (h : code_parts_2.W s w K) : CallsV Tryd.prog 35 #[.string s] w K :=
  fnW_calls ok Tryd.func35 (an := (.named .auto)) (args := [.string s]) (by rw [← code_parts_2.eq]; exact h)
noncomputable def code_parts_3.W : Int → Int → ByteArray → World → (Value → World → Prop) → Prop := fun (v0 v1 : Int) (v2 : ByteArray) (w : Go.World) (K : Go.Value → Go.World → Prop) => ∀ (g : Nat) (w'
 : Go.World), Go.Sx.Fresh w g w' [Go.Value.int Go.IntKind.u8 v0, Go.Value.int Go.IntKind.i64 v1, Go.Value.string v2] (51 : Nat) → ∃ (x : Int), Go.World.cell? w' (Go.Addr.add (Go.Addr.mk g (0 : Nat)
 Option.none) (0 : Nat)) = Option.some (Go.Value.int Go.IntKind.u8 x) ∧ ∃ (x_1 : Int), Go.World.cell? w' (Go.Addr.add (Go.Addr.mk g (0 : Nat) Option.none) (1 : Nat)) = Option.some (Go.Value.int
 Go.IntKind.i64 x_1) ∧ ∃ (x_2 : ByteArray), Go.World.cell? w' (Go.Addr.add (Go.Addr.mk g (0 : Nat) Option.none) (2 : Nat)) = Option.some (Go.Value.string x_2) ∧ Go.Sx.CallsV Go.Proofs.Tryd.prog (37 :
 Nat) #[Go.Value.agg #[Go.Value.int Go.IntKind.u8 x, Go.Value.int Go.IntKind.i64 x_1, Go.Value.string x_2]] w' fun (v : Go.Value) (w' : Go.World) => ∃ (x : Bool), v = Go.Value.bool x ∧ K (Go.Value.bool
 !x) w'
theorem code_parts_3.eq (v0 : Int) (v1 : Int) (v2 : ByteArray) (w : World) (K : Value → World → Prop) : code_parts_3.W v0 v1 v2 w K = fnW Tryd.prog Tryd.f36 (.named .auto) [.agg #[.int .u8 v0, .int .i64 v1, .string v2]] w K := by kernel_rfl
theorem code_parts_3.calls (ok : Okay Tryd.prog) {v0 : Int} {v1 : Int} {v2 : ByteArray} {w : World} {K : Value → World → Prop} (h : code_parts_3.W v0 v1 v2 w K) : CallsV Tryd.prog 36 #[.agg #[.int .u8 v0, .int .i64 v1, .string v2]] w K :=
  fnW_calls ok Tryd.func36 (an := (.named .auto)) (args := [.agg #[.int .u8 v0, .int .i64 v1, .string v2]]) (by rw [← code_parts_3.eq]; exact h)
noncomputable def code_parts_4.W : ByteArray → Bool → Bool → World → (Value → World → Prop) → Prop := fun (c0 : ByteArray) (c1 c2 : Bool) (w : Go.World) (K : Go.Value → Go.World → Prop) => ∀ (g : Nat)
 (w' : Go.World), Go.Sx.Fresh w g w' [Go.Value.string c0, Go.Value.bool c1, Go.Value.bool c2] (53 : Nat) → ∃ (x : ByteArray), Go.World.cell? w' (Go.Addr.add (Go.Addr.mk g (0 : Nat) Option.none) (0 :
 Nat)) = Option.some (Go.Value.string x) ∧ bif ByteArray.toList x == ByteArray.toList (ByteArray.mk #[]) then K (Go.Value.bool Bool.true) w' else ∃ (x : ByteArray), Go.World.cell? w' (Go.Addr.add
 (Go.Addr.mk g (0 : Nat) Option.none) (0 : Nat)) = Option.some (Go.Value.string x) ∧ bif Decidable.decide ((200 : Int) < (↑(ByteArray.size x) : Int)) then K (Go.Value.bool Bool.true) w' else ∃ (x :
 Bool), Go.World.cell? w' (Go.Addr.add (Go.Addr.mk g (0 : Nat) Option.none) (1 : Nat)) = Option.some (Go.Value.bool x) ∧ bif x then ∃ (x : Bool), Go.World.cell? w' (Go.Addr.add (Go.Addr.mk g (0 : Nat)
 Option.none) (2 : Nat)) = Option.some (Go.Value.bool x) ∧ K (Go.Value.bool x) w' else K (Go.Value.bool Bool.false) w'
theorem code_parts_4.eq (c0 : ByteArray) (c1 : Bool) (c2 : Bool) (w : World) (K : Value → World → Prop) : code_parts_4.W c0 c1 c2 w K = fnW Tryd.prog Tryd.f38 (.named .auto) [.agg #[.string c0, .bool c1, .bool c2]] w K := by kernel_rfl
theorem code_parts_4.calls (ok : Okay Tryd.prog) {c0 : ByteArray} {c1 : Bool} {c2 : Bool} {w : World} {K : Value → World → Prop} (h : code_parts_4.W c0 c1 c2 w K) : CallsV Tryd.prog 38 #[.agg #[.string c0, .bool c1, .bool c2]] w K :=
  fnW_calls ok Tryd.func38 (an := (.named .auto)) (args := [.agg #[.string c0, .bool c1, .bool c2]]) (by rw [← code_parts_4.eq]; exact h)
noncomputable def code_parts_6.W : ByteArray → Bool → World → (Value → World → Prop) → Prop := fun (t0 : ByteArray) (t1 : Bool) (w : Go.World) (K : Go.Value → Go.World → Prop) => ∀ (g : Nat) (w' :
 Go.World), Go.Sx.Fresh w g w' [Go.Value.string t0, Go.Value.bool t1] (58 : Nat) → ∃ (x : ByteArray), Go.World.cell? w' (Go.Addr.add (Go.Addr.mk g (0 : Nat) Option.none) (0 : Nat)) = Option.some
 (Go.Value.string x) ∧ ∃ (x_1 : Bool), Go.World.cell? w' (Go.Addr.add (Go.Addr.mk g (0 : Nat) Option.none) (1 : Nat)) = Option.some (Go.Value.bool x_1) ∧ Go.Sx.CallsV Go.Proofs.Tryd.prog (41 : Nat)
 #[Go.Value.string x, Go.Value.bool x_1] w' fun (v : Go.Value) (w' : Go.World) => ∃ (x : Option Go.Addr), ∃ (x_2 : Int), v = Go.Value.tuple #[Go.Value.pointer x, Go.Value.int Go.IntKind.i64 x_2] ∧ K
 (Go.Value.bool !Decidable.decide (x_2 = (0 : Int))) w'
theorem code_parts_6.eq (t0 : ByteArray) (t1 : Bool) (w : World) (K : Value → World → Prop) : code_parts_6.W t0 t1 w K = fnW Tryd.prog Tryd.f40 (.named .auto) [.agg #[.string t0, .bool t1]] w K := by kernel_rfl
theorem code_parts_6.calls (ok : Okay Tryd.prog) {t0 : ByteArray} {t1 : Bool} {w : World} {K : Value → World → Prop} (h : code_parts_6.W t0 t1 w K) : CallsV Tryd.prog 40 #[.agg #[.string t0, .bool t1]] w K :=
  fnW_calls ok Tryd.func40 (an := (.named .auto)) (args := [.agg #[.string t0, .bool t1]]) (by rw [← code_parts_6.eq]; exact h)
noncomputable def code_shape.W : Int → World → (Value → World → Prop) → Prop := fun (o : Int) (w : Go.World) (K : Go.Value → Go.World → Prop) => ∃ (x : Option Nat), ∃ (w' : Go.World), Go.Sx.RunsTo
 Go.Proofs.Tryd.prog (Go.Instr.makeMap (93 : Nat) Option.none) w (Go.Value.map x) w' ∧ ∃ (w'_1 : Go.World), Go.Sx.RunsTo Go.Proofs.Tryd.prog (Go.Instr.mapUpdate (93 : Nat) (Go.Value.map x) (Go.Value.int
 Go.IntKind.u8 (1 : Int)) (Go.Value.agg #[Go.Value.string (ByteArray.mk #[(114 : UInt8), (107 : UInt8), (45 : UInt8), (45 : UInt8)])])) w' () w'_1 ∧ ∃ (w' : Go.World), Go.Sx.RunsTo Go.Proofs.Tryd.prog
 (Go.Instr.mapUpdate (93 : Nat) (Go.Value.map x) (Go.Value.int Go.IntKind.u8 (2 : Int)) (Go.Value.agg #[Go.Value.string (ByteArray.mk #[(114 : UInt8), (98 : UInt8), (45 : UInt8), (45 : UInt8)])])) w'_1
 () w' ∧ ∃ (w'_2 : Go.World), Go.Sx.RunsTo Go.Proofs.Tryd.prog (Go.Instr.mapUpdate (93 : Nat) (Go.Value.map x) (Go.Value.int Go.IntKind.u8 (3 : Int)) (Go.Value.agg #[Go.Value.string (ByteArray.mk #[(114
 : UInt8), (114 : UInt8), (45 : UInt8), (45 : UInt8)])])) w' () w'_2 ∧ ∃ (w' : Go.World), Go.Sx.RunsTo Go.Proofs.Tryd.prog (Go.Instr.mapUpdate (93 : Nat) (Go.Value.map x) (Go.Value.int Go.IntKind.u8 (4
 : Int)) (Go.Value.agg #[Go.Value.string (ByteArray.mk #[(114 : UInt8), (114 : UInt8), (114 : UInt8), (50 : UInt8)])])) w'_2 () w' ∧ ∃ (w'_3 : Go.World), Go.Sx.RunsTo Go.Proofs.Tryd.prog
 (Go.Instr.mapUpdate (93 : Nat) (Go.Value.map x) (Go.Value.int Go.IntKind.u8 (5 : Int)) (Go.Value.agg #[Go.Value.string (ByteArray.mk #[(114 : UInt8), (114 : UInt8), (45 : UInt8), (49 : UInt8)])])) w'
 () w'_3 ∧ ∃ (w' : Go.World), Go.Sx.RunsTo Go.Proofs.Tryd.prog (Go.Instr.mapUpdate (93 : Nat) (Go.Value.map x) (Go.Value.int Go.IntKind.u8 (6 : Int)) (Go.Value.agg #[Go.Value.string (ByteArray.mk #[(114
 : UInt8), (114 : UInt8), (45 : UInt8), (49 : UInt8)])])) w'_3 () w' ∧ ∃ (w'_4 : Go.World), Go.Sx.RunsTo Go.Proofs.Tryd.prog (Go.Instr.mapUpdate (93 : Nat) (Go.Value.map x) (Go.Value.int Go.IntKind.u8
 (7 : Int)) (Go.Value.agg #[Go.Value.string (ByteArray.mk #[(114 : UInt8), (114 : UInt8), (45 : UInt8), (49 : UInt8)])])) w' () w'_4 ∧ ∃ (w' : Go.World), Go.Sx.RunsTo Go.Proofs.Tryd.prog
 (Go.Instr.mapUpdate (93 : Nat) (Go.Value.map x) (Go.Value.int Go.IntKind.u8 (8 : Int)) (Go.Value.agg #[Go.Value.string (ByteArray.mk #[(114 : UInt8), (114 : UInt8), (109 : UInt8), (102 : UInt8)])]))
 w'_4 () w' ∧ ∃ (w'_5 : Go.World), Go.Sx.RunsTo Go.Proofs.Tryd.prog (Go.Instr.mapUpdate (93 : Nat) (Go.Value.map x) (Go.Value.int Go.IntKind.u8 (9 : Int)) (Go.Value.agg #[Go.Value.string (ByteArray.mk
 #[(114 : UInt8), (45 : UInt8), (45 : UInt8), (49 : UInt8)])])) w' () w'_5 ∧ ∃ (w' : Go.World), Go.Sx.RunsTo Go.Proofs.Tryd.prog (Go.Instr.mapUpdate (93 : Nat) (Go.Value.map x) (Go.Value.int
 Go.IntKind.u8 (10 : Int)) (Go.Value.agg #[Go.Value.string (ByteArray.mk #[(106 : UInt8), (45 : UInt8), (45 : UInt8), (45 : UInt8)])])) w'_5 () w' ∧ ∃ (w'_6 : Go.World), Go.Sx.RunsTo Go.Proofs.Tryd.prog
 (Go.Instr.mapUpdate (93 : Nat) (Go.Value.map x) (Go.Value.int Go.IntKind.u8 (11 : Int)) (Go.Value.agg #[Go.Value.string (ByteArray.mk #[(106 : UInt8), (114 : UInt8), (45 : UInt8), (45 : UInt8)])])) w'
 () w'_6 ∧ ∃ (w' : Go.World), Go.Sx.RunsTo Go.Proofs.Tryd.prog (Go.Instr.mapUpdate (93 : Nat) (Go.Value.map x) (Go.Value.int Go.IntKind.u8 (12 : Int)) (Go.Value.agg #[Go.Value.string (ByteArray.mk
 #[(106 : UInt8), (114 : UInt8), (114 : UInt8), (109 : UInt8)])])) w'_6 () w' ∧ ∃ (w'_7 : Go.World), Go.Sx.RunsTo Go.Proofs.Tryd.prog (Go.Instr.mapUpdate (93 : Nat) (Go.Value.map x) (Go.Value.int
 Go.IntKind.u8 (13 : Int)) (Go.Value.agg #[Go.Value.string (ByteArray.mk #[(99 : UInt8), (106 : UInt8), (45 : UInt8), (45 : UInt8)])])) w' () w'_7 ∧ ∃ (w' : Go.World), Go.Sx.RunsTo Go.Proofs.Tryd.prog
 (Go.Instr.mapUpdate (93 : Nat) (Go.Value.map x) (Go.Value.int Go.IntKind.u8 (14 : Int)) (Go.Value.agg #[Go.Value.string (ByteArray.mk #[(105 : UInt8), (106 : UInt8), (114 : UInt8), (109 : UInt8)])]))
 w'_7 () w' ∧ ∃ (w'_8 : Go.World), Go.Sx.RunsTo Go.Proofs.Tryd.prog (Go.Instr.mapUpdate (93 : Nat) (Go.Value.map x) (Go.Value.int Go.IntKind.u8 (15 : Int)) (Go.Value.agg #[Go.Value.string (ByteArray.mk
 #[(99 : UInt8), (110 : UInt8), (45 : UInt8), (45 : UInt8)])])) w' () w'_8 ∧ ∃ (w' : Go.World), Go.Sx.RunsTo Go.Proofs.Tryd.prog (Go.Instr.mapUpdate (93 : Nat) (Go.Value.map x) (Go.Value.int
 Go.IntKind.u8 (16 : Int)) (Go.Value.agg #[Go.Value.string (ByteArray.mk #[(105 : UInt8), (106 : UInt8), (114 : UInt8), (109 : UInt8)])])) w'_8 () w' ∧ ∃ (w'_9 : Go.World), Go.Sx.RunsTo
 Go.Proofs.Tryd.prog (Go.Instr.mapUpdate (93 : Nat) (Go.Value.map x) (Go.Value.int Go.IntKind.u8 (17 : Int)) (Go.Value.agg #[Go.Value.string (ByteArray.mk #[(108 : UInt8), (106 : UInt8), (114 : UInt8),
 (45 : UInt8)])])) w' () w'_9 ∧ ∃ (w' : Go.World), Go.Sx.RunsTo Go.Proofs.Tryd.prog (Go.Instr.mapUpdate (93 : Nat) (Go.Value.map x) (Go.Value.int Go.IntKind.u8 (18 : Int)) (Go.Value.agg
 #[Go.Value.string (ByteArray.mk #[(114 : UInt8), (99 : UInt8), (120 : UInt8), (45 : UInt8)])])) w'_9 () w' ∧ ∃ (w'_10 : Go.World), Go.Sx.RunsTo Go.Proofs.Tryd.prog (Go.Instr.mapUpdate (93 : Nat)
 (Go.Value.map x) (Go.Value.int Go.IntKind.u8 (19 : Int)) (Go.Value.agg #[Go.Value.string (ByteArray.mk #[(114 : UInt8), (99 : UInt8), (45 : UInt8), (45 : UInt8)])])) w' () w'_10 ∧ ∃ (w' : Go.World),
 Go.Sx.RunsTo Go.Proofs.Tryd.prog (Go.Instr.mapUpdate (93 : Nat) (Go.Value.map x) (Go.Value.int Go.IntKind.u8 (20 : Int)) (Go.Value.agg #[Go.Value.string (ByteArray.mk #[(115 : UInt8), (114 : UInt8),
 (114 : UInt8), (45 : UInt8)])])) w'_10 () w' ∧ ∃ (w'_11 : Go.World), Go.Sx.RunsTo Go.Proofs.Tryd.prog (Go.Instr.mapUpdate (93 : Nat) (Go.Value.map x) (Go.Value.int Go.IntKind.u8 (21 : Int))
 (Go.Value.agg #[Go.Value.string (ByteArray.mk #[(115 : UInt8), (106 : UInt8), (45 : UInt8), (45 : UInt8)])])) w' () w'_11 ∧ ∃ (w' : Go.World), Go.Sx.RunsTo Go.Proofs.Tryd.prog (Go.Instr.mapUpdate (93 :
 Nat) (Go.Value.map x) (Go.Value.int Go.IntKind.u8 (22 : Int)) (Go.Value.agg #[Go.Value.string (ByteArray.mk #[(115 : UInt8), (110 : UInt8), (45 : UInt8), (45 : UInt8)])])) w'_11 () w' ∧ ∃ (w'_12 :
 Go.World), Go.Sx.RunsTo Go.Proofs.Tryd.prog (Go.Instr.mapUpdate (93 : Nat) (Go.Value.map x) (Go.Value.int Go.IntKind.u8 (23 : Int)) (Go.Value.agg #[Go.Value.string (ByteArray.mk #[(114 : UInt8), (115 :
 UInt8), (120 : UInt8), (45 : UInt8)])])) w' () w'_12 ∧ ∃ (w' : Go.World), Go.Sx.RunsTo Go.Proofs.Tryd.prog (Go.Instr.mapUpdate (93 : Nat) (Go.Value.map x) (Go.Value.int Go.IntKind.u8 (24 : Int))
 (Go.Value.agg #[Go.Value.string (ByteArray.mk #[(116 : UInt8), (45 : UInt8), (45 : UInt8), (45 : UInt8)])])) w'_12 () w' ∧ ∃ (w'_13 : Go.World), Go.Sx.RunsTo Go.Proofs.Tryd.prog (Go.Instr.mapUpdate (93
 : Nat) (Go.Value.map x) (Go.Value.int Go.IntKind.u8 (25 : Int)) (Go.Value.agg #[Go.Value.string (ByteArray.mk #[(116 : UInt8), (114 : UInt8), (45 : UInt8), (45 : UInt8)])])) w' () w'_13 ∧ ∃ (w' :
 Go.World), Go.Sx.RunsTo Go.Proofs.Tryd.prog (Go.Instr.mapUpdate (93 : Nat) (Go.Value.map x) (Go.Value.int Go.IntKind.u8 (26 : Int)) (Go.Value.agg #[Go.Value.string (ByteArray.mk #[(114 : UInt8), (116 :
 UInt8), (45 : UInt8), (45 : UInt8)])])) w'_13 () w' ∧ ∃ (w'_14 : Go.World), Go.Sx.RunsTo Go.Proofs.Tryd.prog (Go.Instr.mapUpdate (93 : Nat) (Go.Value.map x) (Go.Value.int Go.IntKind.u8 (27 : Int))
 (Go.Value.agg #[Go.Value.string (ByteArray.mk #[(114 : UInt8), (45 : UInt8), (45 : UInt8), (45 : UInt8)])])) w' () w'_14 ∧ ∃ (w' : Go.World), Go.Sx.RunsTo Go.Proofs.Tryd.prog (Go.Instr.mapUpdate (93 :
 Nat) (Go.Value.map x) (Go.Value.int Go.IntKind.u8 (28 : Int)) (Go.Value.agg #[Go.Value.string (ByteArray.mk #[(114 : UInt8), (119 : UInt8), (45 : UInt8), (45 : UInt8)])])) w'_14 () w' ∧ ∃ (w'_15 :
 Go.World), Go.Sx.RunsTo Go.Proofs.Tryd.prog (Go.Instr.mapUpdate (93 : Nat) (Go.Value.map x) (Go.Value.int Go.IntKind.u8 (29 : Int)) (Go.Value.agg #[Go.Value.string (ByteArray.mk #[(119 : UInt8), (114 :
 UInt8), (114 : UInt8), (45 : UInt8)])])) w' () w'_15 ∧ ∃ (w' : Go.World), Go.Sx.RunsTo Go.Proofs.Tryd.prog (Go.Instr.mapUpdate (93 : Nat) (Go.Value.map x) (Go.Value.int Go.IntKind.u8 (30 : Int))
 (Go.Value.agg #[Go.Value.string (ByteArray.mk #[(119 : UInt8), (114 : UInt8), (45 : UInt8), (45 : UInt8)])])) w'_15 () w' ∧ ∃ (w'_16 : Go.World), Go.Sx.RunsTo Go.Proofs.Tryd.prog (Go.Instr.mapUpdate
 (93 : Nat) (Go.Value.map x) (Go.Value.int Go.IntKind.u8 (31 : Int)) (Go.Value.agg #[Go.Value.string (ByteArray.mk #[(113 : UInt8), (45 : UInt8), (45 : UInt8), (45 : UInt8)])])) w' () w'_16 ∧ ∃ (w' :
 Go.World), Go.Sx.RunsTo Go.Proofs.Tryd.prog (Go.Instr.mapUpdate (93 : Nat) (Go.Value.map x) (Go.Value.int Go.IntKind.u8 (32 : Int)) (Go.Value.agg #[Go.Value.string (ByteArray.mk #[(45 : UInt8), (45 :
 UInt8), (45 : UInt8), (45 : UInt8)])])) w'_16 () w' ∧ ∃ (w'_17 : Go.World), Go.Sx.RunsTo Go.Proofs.Tryd.prog (Go.Instr.mapUpdate (93 : Nat) (Go.Value.map x) (Go.Value.int Go.IntKind.u8 (33 : Int))
 (Go.Value.agg #[Go.Value.string (ByteArray.mk #[(45 : UInt8), (45 : UInt8), (45 : UInt8), (45 : UInt8)])])) w' () w'_17 ∧ ∃ (w' : Go.World), Go.Sx.RunsTo Go.Proofs.Tryd.prog (Go.Instr.mapUpdate (93 :
 Nat) (Go.Value.map x) (Go.Value.int Go.IntKind.u8 (34 : Int)) (Go.Value.agg #[Go.Value.string (ByteArray.mk #[(45 : UInt8), (45 : UInt8), (45 : UInt8), (45 : UInt8)])])) w'_17 () w' ∧ ∃ (w'_18 :
 Go.World), Go.Sx.RunsTo Go.Proofs.Tryd.prog (Go.Instr.mapUpdate (93 : Nat) (Go.Value.map x) (Go.Value.int Go.IntKind.u8 (35 : Int)) (Go.Value.agg #[Go.Value.string (ByteArray.mk #[(45 : UInt8), (45 :
 UInt8), (45 : UInt8), (45 : UInt8)])])) w' () w'_18 ∧ ∃ (x_1 : ByteArray), ∃ (w' : Go.World), Go.Sx.RunsTo Go.Proofs.Tryd.prog (Go.Instr.lookup (93 : Nat) (Go.Value.map x) (Go.Value.int Go.IntKind.u8
 o) Bool.false) w'_18 (Go.Value.agg #[Go.Value.string x_1]) w' ∧ K (Go.Value.string x_1) w'
theorem code_shape.eq (o : Int) (w : World) (K : Value → World → Prop) : code_shape.W o w K = fnW Tryd.prog Tryd.f19 (.named .auto) [.int .u8 o] w K := by kernel_rfl
theorem code_shape.calls (ok : Okay Tryd.prog) {o : Int} {w : World} {K : Value → World → Prop} (h : code_shape.W o w K) : CallsV Tryd.prog 19 #[.int .u8 o] w K :=
  fnW_calls ok Tryd.func19 (an := (.named .auto)) (args := [.int .u8 o]) (by rw [← code_shape.eq]; exact h)
noncomputable def code_field_1.W : Int → Addr → World → (Value → World → Prop) → Prop := fun (high : Int) (a1 : Go.Addr) (w : Go.World) (K : Go.Value → Go.World → Prop) => ∀ (g : Nat) (w' : Go.World),
 Go.Sx.Fresh w g w' [Go.Value.int Go.IntKind.i64 high] (3 : Nat) → K (Go.Value.func (Go.Fn.func (48 : Nat)) #[] #[Go.Value.pointer (Option.some a1), Go.Value.pointer (Option.some (Go.Addr.mk g (0 : Nat)
 Option.none))]) w'
theorem code_field_1.eq (high : Int) (a1 : Addr) (w : World) (K : Value → World → Prop) : code_field_1.W high a1 w K = fnW Tryd.prog Tryd.f47 (.named .auto) [.int .i64 high, .pointer (some a1)] w K := by kernel_rfl
theorem code_field_1.calls (ok : Okay Tryd.prog) {high : Int} {a1 : Addr} {w : World} {K : Value → World → Prop} (h : code_field_1.W high a1 w K) : CallsV Tryd.prog 47 #[.int .i64 high, .pointer (some a1)] w K :=
  fnW_calls ok Tryd.func47 (an := (.named .auto)) (args := [.int .i64 high, .pointer (some a1)]) (by rw [← code_field_1.eq]; exact h)
noncomputable def code_field_1_1.W : Addr → Addr → World → (Value → World → Prop) → Prop := fun (a0 a1 : Go.Addr) (w : Go.World) (K : Go.Value → Go.World → Prop) => ∃ (x : Int), Go.World.cell? w a0 =
 Option.some (Go.Value.int Go.IntKind.i64 x) ∧ bif Decidable.decide ((0 : Int) ≤ x) then ∃ (x : Int), Go.World.cell? w a0 = Option.some (Go.Value.int Go.IntKind.i64 x) ∧ ∃ (x_1 : Int), Go.World.cell? w
 a1 = Option.some (Go.Value.int Go.IntKind.i64 x_1) ∧ K (Go.Value.bool (Decidable.decide (x < x_1))) w else K (Go.Value.bool Bool.false) w
theorem code_field_1_1.eq (a0 : Addr) (a1 : Addr) (w : World) (K : Value → World → Prop) : code_field_1_1.W a0 a1 w K = fnW Tryd.prog Tryd.f48 (.named .auto) [.pointer (some a0), .pointer (some a1)] w K := by kernel_rfl
theorem code_field_1_1.calls (ok : Okay Tryd.prog) {a0 : Addr} {a1 : Addr} {w : World} {K : Value → World → Prop} (h : code_field_1_1.W a0 a1 w K) : CallsV Tryd.prog 48 #[.pointer (some a0), .pointer (some a1)] w K :=
  fnW_calls ok Tryd.func48 (an := (.named .auto)) (args := [.pointer (some a0), .pointer (some a1)]) (by rw [← code_field_1_1.eq]; exact h)
noncomputable def code_field_3.W : Addr → World → (Value → World → Prop) → Prop := fun (a0 : Go.Addr) (w : Go.World) (K : Go.Value → Go.World → Prop) => ∃ (x : Int), Go.World.cell? w a0 = Option.some
 (Go.Value.int Go.IntKind.i64 x) ∧ K (Go.Value.bool (Decidable.decide (x = (0 : Int)))) w
theorem code_field_3.eq (a0 : Addr) (w : World) (K : Value → World → Prop) : code_field_3.W a0 w K = fnW Tryd.prog Tryd.f51 (.named .auto) [.pointer (some a0)] w K := by kernel_rfl
theorem code_field_3.calls (ok : Okay Tryd.prog) {a0 : Addr} {w : World} {K : Value → World → Prop} (h : code_field_3.W a0 w K) : CallsV Tryd.prog 51 #[.pointer (some a0)] w K :=
  fnW_calls ok Tryd.func51 (an := (.named .auto)) (args := [.pointer (some a0)]) (by rw [← code_field_3.eq]; exact h)
noncomputable def code_field_4.W : Addr → Addr → Addr → World → (Value → World → Prop) → Prop := fun (a0 a1 a2 : Go.Addr) (w : Go.World) (K : Go.Value → Go.World → Prop) => ∃ (x : Int), Go.World.cell?
 w a0 = Option.some (Go.Value.int Go.IntKind.i64 x) ∧ ∃ (x_1 : Int), Go.World.cell? w a1 = Option.some (Go.Value.int Go.IntKind.i64 x_1) ∧ bif Decidable.decide (x_1 < x) then ∃ (x : Int), Go.World.cell?
 w a0 = Option.some (Go.Value.int Go.IntKind.i64 x) ∧ ∃ (x_2 : Option Go.Addr), ∃ (x_3 : Nat), ∃ (x_4 : Nat), Go.World.cell? w (Go.Addr.add a2 (8 : Nat)) = Option.some (Go.Value.slice x_2 x_3 x_4) ∧ K
 (Go.Value.bool (Decidable.decide (x < (↑x_3 : Int)))) w else K (Go.Value.bool Bool.false) w
theorem code_field_4.eq (a0 : Addr) (a1 : Addr) (a2 : Addr) (w : World) (K : Value → World → Prop) : code_field_4.W a0 a1 a2 w K = fnW Tryd.prog Tryd.f52 (.named .auto) [.pointer (some a0), .pointer (some a1), .pointer (some a2)] w K := by kernel_rfl
theorem code_field_4.calls (ok : Okay Tryd.prog) {a0 : Addr} {a1 : Addr} {a2 : Addr} {w : World} {K : Value → World → Prop} (h : code_field_4.W a0 a1 a2 w K) : CallsV Tryd.prog 52 #[.pointer (some a0), .pointer (some a1), .pointer (some a2)] w K :=
  fnW_calls ok Tryd.func52 (an := (.named .auto)) (args := [.pointer (some a0), .pointer (some a1), .pointer (some a2)]) (by rw [← code_field_4.eq]; exact h)
noncomputable def code_field_5.W : Addr → Addr → World → (Value → World → Prop) → Prop := fun (a0 a1 : Go.Addr) (w : Go.World) (K : Go.Value → Go.World → Prop) => ∃ (x : Int), Go.World.cell? w a0 =
 Option.some (Go.Value.int Go.IntKind.i64 x) ∧ bif Decidable.decide ((1 : Int) ≤ x) then ∃ (x : Int), Go.World.cell? w a0 = Option.some (Go.Value.int Go.IntKind.i64 x) ∧ ∃ (x_1 : Int), Go.World.cell? w
 a1 = Option.some (Go.Value.int Go.IntKind.i64 x_1) ∧ K (Go.Value.bool (Decidable.decide (x ≤ x_1))) w else K (Go.Value.bool Bool.false) w
theorem code_field_5.eq (a0 : Addr) (a1 : Addr) (w : World) (K : Value → World → Prop) : code_field_5.W a0 a1 w K = fnW Tryd.prog Tryd.f53 (.named .auto) [.pointer (some a0), .pointer (some a1)] w K := by kernel_rfl
theorem code_field_5.calls (ok : Okay Tryd.prog) {a0 : Addr} {a1 : Addr} {w : World} {K : Value → World → Prop} (h : code_field_5.W a0 a1 w K) : CallsV Tryd.prog 53 #[.pointer (some a0), .pointer (some a1)] w K :=
  fnW_calls ok Tryd.func53 (an := (.named .auto)) (args := [.pointer (some a0), .pointer (some a1)]) (by rw [← code_field_5.eq]; exact h)
noncomputable def code_field_6.W : Addr → Addr → World → (Value → World → Prop) → Prop := fun (a0 a1 : Go.Addr) (w : Go.World) (K : Go.Value → Go.World → Prop) => ∃ (x : Int), Go.World.cell? w a0 =
 Option.some (Go.Value.int Go.IntKind.i64 x) ∧ bif Decidable.decide ((1 : Int) ≤ x) then ∃ (x : Int), Go.World.cell? w a0 = Option.some (Go.Value.int Go.IntKind.i64 x) ∧ ∃ (x_1 : Int), Go.World.cell? w
 (Go.Addr.add a1 (1 : Nat)) = Option.some (Go.Value.int Go.IntKind.i64 x_1) ∧ K (Go.Value.bool (Decidable.decide (x ≤ x_1))) w else K (Go.Value.bool Bool.false) w
theorem code_field_6.eq (a0 : Addr) (a1 : Addr) (w : World) (K : Value → World → Prop) : code_field_6.W a0 a1 w K = fnW Tryd.prog Tryd.f54 (.named .auto) [.pointer (some a0), .pointer (some a1)] w K := by kernel_rfl
theorem code_field_6.calls (ok : Okay Tryd.prog) {a0 : Addr} {a1 : Addr} {w : World} {K : Value → World → Prop} (h : code_field_6.W a0 a1 w K) : CallsV Tryd.prog 54 #[.pointer (some a0), .pointer (some a1)] w K :=
  fnW_calls ok Tryd.func54 (an := (.named .auto)) (args := [.pointer (some a0), .pointer (some a1)]) (by rw [← code_field_6.eq]; exact h)
noncomputable def code_field_7.W : ByteArray → Bool → Bool → World → (Value → World → Prop) → Prop := fun (c0 : ByteArray) (c1 c2 : Bool) (w : Go.World) (K : Go.Value → Go.World → Prop) => ∀ (g : Nat)
 (w' : Go.World), Go.Sx.Fresh w g w' [Go.Value.string c0, Go.Value.bool c1, Go.Value.bool c2] (53 : Nat) → ∃ (x : Bool), Go.World.cell? w' (Go.Addr.add (Go.Addr.mk g (0 : Nat) Option.none) (1 : Nat)) =
 Option.some (Go.Value.bool x) ∧ K (Go.Value.bool x) w'
theorem code_field_7.eq (c0 : ByteArray) (c1 : Bool) (c2 : Bool) (w : World) (K : Value → World → Prop) : code_field_7.W c0 c1 c2 w K = fnW Tryd.prog Tryd.f55 (.named .auto) [.agg #[.string c0, .bool c1, .bool c2]] w K := by kernel_rfl
theorem code_field_7.calls (ok : Okay Tryd.prog) {c0 : ByteArray} {c1 : Bool} {c2 : Bool} {w : World} {K : Value → World → Prop} (h : code_field_7.W c0 c1 c2 w K) : CallsV Tryd.prog 55 #[.agg #[.string c0, .bool c1, .bool c2]] w K :=
  fnW_calls ok Tryd.func55 (an := (.named .auto)) (args := [.agg #[.string c0, .bool c1, .bool c2]]) (by rw [← code_field_7.eq]; exact h)
noncomputable def code_field_8.W : ByteArray → Bool → Bool → World → (Value → World → Prop) → Prop := fun (c0 : ByteArray) (c1 c2 : Bool) (w : Go.World) (K : Go.Value → Go.World → Prop) => ∀ (g : Nat)
 (w' : Go.World), Go.Sx.Fresh w g w' [Go.Value.string c0, Go.Value.bool c1, Go.Value.bool c2] (53 : Nat) → ∃ (x : Bool), Go.World.cell? w' (Go.Addr.add (Go.Addr.mk g (0 : Nat) Option.none) (1 : Nat)) =
 Option.some (Go.Value.bool x) ∧ K (Go.Value.bool !x) w'
theorem code_field_8.eq (c0 : ByteArray) (c1 : Bool) (c2 : Bool) (w : World) (K : Value → World → Prop) : code_field_8.W c0 c1 c2 w K = fnW Tryd.prog Tryd.f56 (.named .auto) [.agg #[.string c0, .bool c1, .bool c2]] w K := by kernel_rfl
theorem code_field_8.calls (ok : Okay Tryd.prog) {c0 : ByteArray} {c1 : Bool} {c2 : Bool} {w : World} {K : Value → World → Prop} (h : code_field_8.W c0 c1 c2 w K) : CallsV Tryd.prog 56 #[.agg #[.string c0, .bool c1, .bool c2]] w K :=
  fnW_calls ok Tryd.func56 (an := (.named .auto)) (args := [.agg #[.string c0, .bool c1, .bool c2]]) (by rw [← code_field_8.eq]; exact h)
noncomputable def code_field_9.W : ByteArray → Bool → Bool → World → (Value → World → Prop) → Prop := fun (c0 : ByteArray) (c1 c2 : Bool) (w : Go.World) (K : Go.Value → Go.World → Prop) => ∀ (g : Nat)
 (w' : Go.World), Go.Sx.Fresh w g w' [Go.Value.string c0, Go.Value.bool c1, Go.Value.bool c2] (53 : Nat) → ∃ (x : Bool), Go.World.cell? w' (Go.Addr.add (Go.Addr.mk g (0 : Nat) Option.none) (1 : Nat)) =
 Option.some (Go.Value.bool x) ∧ bif !x then ∃ (x : Bool), Go.World.cell? w' (Go.Addr.add (Go.Addr.mk g (0 : Nat) Option.none) (2 : Nat)) = Option.some (Go.Value.bool x) ∧ K (Go.Value.bool x) w' else K
 (Go.Value.bool Bool.false) w'
theorem code_field_9.eq (c0 : ByteArray) (c1 : Bool) (c2 : Bool) (w : World) (K : Value → World → Prop) : code_field_9.W c0 c1 c2 w K = fnW Tryd.prog Tryd.f57 (.named .auto) [.agg #[.string c0, .bool c1, .bool c2]] w K := by kernel_rfl
theorem code_field_9.calls (ok : Okay Tryd.prog) {c0 : ByteArray} {c1 : Bool} {c2 : Bool} {w : World} {K : Value → World → Prop} (h : code_field_9.W c0 c1 c2 w K) : CallsV Tryd.prog 57 #[.agg #[.string c0, .bool c1, .bool c2]] w K :=
  fnW_calls ok Tryd.func57 (an := (.named .auto)) (args := [.agg #[.string c0, .bool c1, .bool c2]]) (by rw [← code_field_9.eq]; exact h)
noncomputable def code_runs.W : Int → Int → Int → Option Addr → Nat → Nat → Option Addr → Nat → Nat → Option Addr → Nat → Nat → Option Addr → Nat → Nat → Option Addr → Nat → Nat → Option Addr → Nat →
 Nat → Int → World → (Value → World → Prop) → Prop := fun (p0 p1 p2 : Int) (p3_A : Option Go.Addr) (p3_n p3_c : Nat) (p4_A : Option Go.Addr) (p4_n p4_c : Nat) (p5_A : Option Go.Addr) (p5_n p5_c : Nat)
 (p6_A : Option Go.Addr) (p6_n p6_c : Nat) (p7_A : Option Go.Addr) (p7_n p7_c : Nat) (p8_A : Option Go.Addr) (p8_n p8_c : Nat) (atx : Int) (w : Go.World) (K : Go.Value → Go.World → Prop) => ∀ (g : Nat)
 (w' : Go.World), Go.Sx.Fresh w g w' [Go.Value.int Go.IntKind.i64 p0, Go.Value.int Go.IntKind.i64 p1, Go.Value.int Go.IntKind.i64 p2, Go.Value.slice p3_A p3_n p3_c, Go.Value.slice p4_A p4_n p4_c,
 Go.Value.slice p5_A p5_n p5_c, Go.Value.slice p6_A p6_n p6_c, Go.Value.slice p7_A p7_n p7_c, Go.Value.slice p8_A p8_n p8_c] (29 : Nat) → ∃ (x : Option Go.Addr), ∃ (x_1 : Nat), ∃ (x_2 : Nat),
 Go.World.cell? w' (Go.Addr.add (Go.Addr.mk g (0 : Nat) Option.none) (8 : Nat)) = Option.some (Go.Value.slice x x_1 x_2) ∧ ∃ (ad : Go.Addr), x = Option.some ad ∧ ((0 : Int) ≤ atx ∧ atx < (↑x_1 : Int)) ∧
 ∃ (x : Int), Go.World.cell? w' (Go.Addr.add (Go.Addr.add ad (Int.toNat atx * (5 : Nat))) (0 : Nat)) = Option.some (Go.Value.int Go.IntKind.u8 x) ∧ ∃ (x_3 : Int), Go.World.cell? w' (Go.Addr.add
 (Go.Addr.add ad (Int.toNat atx * (5 : Nat))) (1 : Nat)) = Option.some (Go.Value.int Go.IntKind.i64 x_3) ∧ ∃ (x_4 : Int), Go.World.cell? w' (Go.Addr.add (Go.Addr.add ad (Int.toNat atx * (5 : Nat))) (2 :
 Nat)) = Option.some (Go.Value.int Go.IntKind.i64 x_4) ∧ ∃ (x_5 : Int), Go.World.cell? w' (Go.Addr.add (Go.Addr.add ad (Int.toNat atx * (5 : Nat))) (3 : Nat)) = Option.some (Go.Value.int Go.IntKind.i64
 x_5) ∧ ∃ (x_6 : Int), Go.World.cell? w' (Go.Addr.add (Go.Addr.add ad (Int.toNat atx * (5 : Nat))) (4 : Nat)) = Option.some (Go.Value.int Go.IntKind.i64 x_6) ∧ ∀ (g_1 : Nat) (w'_1 : Go.World),
 Go.Sx.Fresh w' g_1 w'_1 [Go.Value.int Go.IntKind.u8 (0 : Int), Go.Value.int Go.IntKind.i64 (0 : Int), Go.Value.int Go.IntKind.i64 (0 : Int), Go.Value.int Go.IntKind.i64 (0 : Int), Go.Value.int
 Go.IntKind.i64 (0 : Int)] (38 : Nat) → Go.Sx.stOK (Go.Addr.mk g_1 (0 : Nat) Option.none) (0 : Nat) [Go.Value.int Go.IntKind.u8 x, Go.Value.int Go.IntKind.i64 x_3, Go.Value.int Go.IntKind.i64 x_4,
 Go.Value.int Go.IntKind.i64 x_5, Go.Value.int Go.IntKind.i64 x_6] w'_1 ∧ ∀ (w' : Go.World), w' = Go.Sx.setAll (Go.Addr.mk g_1 (0 : Nat) Option.none) (0 : Nat) [Go.Value.int Go.IntKind.u8 x,
 Go.Value.int Go.IntKind.i64 x_3, Go.Value.int Go.IntKind.i64 x_4, Go.Value.int Go.IntKind.i64 x_5, Go.Value.int Go.IntKind.i64 x_6] w'_1 → ∃ (x : Int), Go.World.cell? w' (Go.Addr.add (Go.Addr.mk g_1 (0
 : Nat) Option.none) (0 : Nat)) = Option.some (Go.Value.int Go.IntKind.u8 x) ∧ bif Decidable.decide (x = (8 : Int)) then ∃ (x : Int), Go.World.cell? w' (Go.Addr.add (Go.Addr.mk g_1 (0 : Nat)
 Option.none) (4 : Nat)) = Option.some (Go.Value.int Go.IntKind.i64 x) ∧ Go.Sx.CallsV Go.Proofs.Tryd.prog (60 : Nat) #[Go.Value.int Go.IntKind.i64 x] w' fun (v : Go.Value) (w' : Go.World) => ∃ (x :
 ByteArray), ∃ (x_7 : Bool), v = Go.Value.tuple #[Go.Value.string x, Go.Value.bool x_7] ∧ ∃ (x_8 : Int), Go.World.cell? w' (Go.Addr.add (Go.Addr.mk g_1 (0 : Nat) Option.none) (3 : Nat)) = Option.some
 (Go.Value.int Go.IntKind.i64 x_8) ∧ bif Decidable.decide (x_8 ≤ (100 : Int)) then ∃ (x_9 : Int), Go.World.cell? w' (Go.Addr.add (Go.Addr.mk g_1 (0 : Nat) Option.none) (2 : Nat)) = Option.some
 (Go.Value.int Go.IntKind.i64 x_9) ∧ ∃ (x_10 : Int), Go.World.cell? w' (Go.Addr.add (Go.Addr.mk g_1 (0 : Nat) Option.none) (3 : Nat)) = Option.some (Go.Value.int Go.IntKind.i64 x_10) ∧ Go.Sx.CallsV
 Go.Proofs.Tryd.prog (59 : Nat) #[Go.Value.int Go.IntKind.i64 x_9, Go.Value.int Go.IntKind.i64 x_10, Go.Value.pointer (Option.some (Go.Addr.mk g (0 : Nat) Option.none))] w' fun (v : Go.Value) (w' :
 Go.World) => ∃ (x_11 : Bool), v = Go.Value.bool x_11 ∧ bif x_11 then ∃ (x_12 : Int), Go.World.cell? w' (Go.Addr.add (Go.Addr.mk g_1 (0 : Nat) Option.none) (3 : Nat)) = Option.some (Go.Value.int
 Go.IntKind.i64 x_12) ∧ Go.Sx.CallsV Go.Proofs.Tryd.prog (61 : Nat) #[Go.Value.string x, Go.Value.int Go.IntKind.i64 x_12] w' fun (v : Go.Value) (w' : Go.World) => ∃ (x : Bool), v = Go.Value.bool x ∧ K
 (Go.Value.bool x) w' else K (Go.Value.bool Bool.false) w' else K (Go.Value.bool Bool.false) w' else bif Decidable.decide (x = (12 : Int)) then ∃ (x : Int), Go.World.cell? w' (Go.Addr.add (Go.Addr.mk
 g_1 (0 : Nat) Option.none) (2 : Nat)) = Option.some (Go.Value.int Go.IntKind.i64 x) ∧ ∃ (x_7 : Int), Go.World.cell? w' (Go.Addr.add (Go.Addr.mk g_1 (0 : Nat) Option.none) (4 : Nat)) = Option.some
 (Go.Value.int Go.IntKind.i64 x_7) ∧ Go.Sx.CallsV Go.Proofs.Tryd.prog (59 : Nat) #[Go.Value.int Go.IntKind.i64 x, Go.Value.int Go.IntKind.i64 x_7, Go.Value.pointer (Option.some (Go.Addr.mk g (0 : Nat)
 Option.none))] w' fun (v : Go.Value) (w' : Go.World) => ∃ (x : Bool), v = Go.Value.bool x ∧ bif x then ∃ (x : Int), Go.World.cell? w' (Go.Addr.add (Go.Addr.mk g_1 (0 : Nat) Option.none) (3 : Nat)) =
 Option.some (Go.Value.int Go.IntKind.i64 x) ∧ ∃ (x_8 : Int), Go.World.cell? w' (Go.Addr.add (Go.Addr.mk g_1 (0 : Nat) Option.none) (4 : Nat)) = Option.some (Go.Value.int Go.IntKind.i64 x_8) ∧
 Go.Sx.CallsV Go.Proofs.Tryd.prog (59 : Nat) #[Go.Value.int Go.IntKind.i64 x, Go.Value.int Go.IntKind.i64 x_8, Go.Value.pointer (Option.some (Go.Addr.mk g (0 : Nat) Option.none))] w' fun (v : Go.Value)
 (w' : Go.World) => ∃ (x : Bool), v = Go.Value.bool x ∧ K (Go.Value.bool x) w' else K (Go.Value.bool Bool.false) w' else ∃ (J : Bool → Go.World → Prop), (∀ (x_7 : Bool) (w : Go.World), J x_7 w → bif x_7
 then ∃ (x : Int), Go.World.cell? w (Go.Addr.add (Go.Addr.mk g_1 (0 : Nat) Option.none) (3 : Nat)) = Option.some (Go.Value.int Go.IntKind.i64 x) ∧ ∃ (x_8 : Int), Go.World.cell? w (Go.Addr.add
 (Go.Addr.mk g_1 (0 : Nat) Option.none) (4 : Nat)) = Option.some (Go.Value.int Go.IntKind.i64 x_8) ∧ Go.Sx.CallsV Go.Proofs.Tryd.prog (59 : Nat) #[Go.Value.int Go.IntKind.i64 x, Go.Value.int
 Go.IntKind.i64 x_8, Go.Value.pointer (Option.some (Go.Addr.mk g (0 : Nat) Option.none))] w fun (v : Go.Value) (w' : Go.World) => ∃ (x : Bool), v = Go.Value.bool x ∧ K (Go.Value.bool x) w' else bif
 Decidable.decide (x = (18 : Int)) then ∃ (x : Int), Go.World.cell? w (Go.Addr.add (Go.Addr.mk g_1 (0 : Nat) Option.none) (3 : Nat)) = Option.some (Go.Value.int Go.IntKind.i64 x) ∧ K (Go.Value.bool
 (Decidable.decide (x < (30 : Int)))) w else bif Decidable.decide (x = (23 : Int)) then ∃ (S : Go.World → Prop), S (Go.World.drew w) ∧ ∃ (x : Int), (∀ (u : Go.World), S u → Go.World.cell? u (Go.Addr.add
 (Go.Addr.mk g_1 (0 : Nat) Option.none) (3 : Nat)) = Option.some (Go.Value.int Go.IntKind.i64 x)) ∧ ∃ (x_8 : Option Go.Addr), ∃ (x_9 : Nat), ∃ (x_10 : Nat), (∀ (u : Go.World), S u → Go.World.cell? u
 (Go.Addr.add (Go.Addr.mk g (0 : Nat) Option.none) (6 : Nat)) = Option.some (Go.Value.slice x_8 x_9 x_10)) ∧ ∃ (x_11 : Int), (∀ (u : Go.World), S u → Go.World.cell? u (Go.Addr.add (Go.Addr.mk g_1 (0 :
 Nat) Option.none) (2 : Nat)) = Option.some (Go.Value.int Go.IntKind.i64 x_11)) ∧ ∃ (ad : Go.Addr), x_8 = Option.some ad ∧ ((0 : Int) ≤ x_11 ∧ x_11 < (↑x_9 : Int)) ∧ ∃ (x_12 : Int), (∀ (u : Go.World), S
 u → Go.World.cell? u (Go.Addr.add (Go.Addr.add ad (Int.toNat x_11 * (3 : Nat))) (1 : Nat)) = Option.some (Go.Value.int Go.IntKind.i64 x_12)) ∧ K (Go.Value.bool (Decidable.decide (x < x_12)))
 (Go.World.drew w) else bif Decidable.decide (x = (20 : Int)) then ∃ (S : Go.World → Prop), S (Go.World.drew w) ∧ ∃ (x : Int), (∀ (u : Go.World), S u → Go.World.cell? u (Go.Addr.add (Go.Addr.mk g_1 (0 :
 Nat) Option.none) (2 : Nat)) = Option.some (Go.Value.int Go.IntKind.i64 x)) ∧ ∃ (x_8 : Option Go.Addr), ∃ (x_9 : Nat), ∃ (x_10 : Nat), (∀ (u : Go.World), S u → Go.World.cell? u (Go.Addr.add (Go.Addr.mk
 g (0 : Nat) Option.none) (6 : Nat)) = Option.some (Go.Value.slice x_8 x_9 x_10)) ∧ ∃ (x_11 : Int), (∀ (u : Go.World), S u → Go.World.cell? u (Go.Addr.add (Go.Addr.mk g_1 (0 : Nat) Option.none) (1 :
 Nat)) = Option.some (Go.Value.int Go.IntKind.i64 x_11)) ∧ ∃ (ad : Go.Addr), x_8 = Option.some ad ∧ ((0 : Int) ≤ x_11 ∧ x_11 < (↑x_9 : Int)) ∧ ∃ (x_12 : Option Go.Addr), ∃ (x_13 : Nat), ∃ (x_14 : Nat),
 (∀ (u : Go.World), S u → Go.World.cell? u (Go.Addr.add (Go.Addr.add ad (Int.toNat x_11 * (3 : Nat))) (0 : Nat)) = Option.some (Go.Value.slice x_12 x_13 x_14)) ∧ Go.Sx.CallsV Go.Proofs.Tryd.prog (59 :
 Nat) #[Go.Value.int Go.IntKind.i64 x, Go.Value.int Go.IntKind.i64 (↑x_13 : Int), Go.Value.pointer (Option.some (Go.Addr.mk g (0 : Nat) Option.none))] (Go.World.drew w) fun (v : Go.Value) (w' :
 Go.World) => ∃ (x : Bool), v = Go.Value.bool x ∧ S w' ∧ bif x then ∃ (S_1 : Go.World → Prop), S_1 w' ∧ ∃ (x : Int), (∀ (u : Go.World), S_1 u → Go.World.cell? u (Go.Addr.add (Go.Addr.mk g_1 (0 : Nat)
 Option.none) (3 : Nat)) = Option.some (Go.Value.int Go.IntKind.i64 x)) ∧ ∃ (x_15 : Option Go.Addr), ∃ (x_16 : Nat), ∃ (x_17 : Nat), (∀ (u : Go.World), S_1 u → Go.World.cell? u (Go.Addr.add (Go.Addr.mk
 g (0 : Nat) Option.none) (6 : Nat)) = Option.some (Go.Value.slice x_15 x_16 x_17)) ∧ ∃ (x_18 : Int), (∀ (u : Go.World), S_1 u → Go.World.cell? u (Go.Addr.add (Go.Addr.mk g_1 (0 : Nat) Option.none) (1 :
 Nat)) = Option.some (Go.Value.int Go.IntKind.i64 x_18)) ∧ ∃ (ad : Go.Addr), x_15 = Option.some ad ∧ ((0 : Int) ≤ x_18 ∧ x_18 < (↑x_16 : Int)) ∧ ∃ (x_19 : Int), (∀ (u : Go.World), S_1 u → Go.World.cell?
 u (Go.Addr.add (Go.Addr.add ad (Int.toNat x_18 * (3 : Nat))) (1 : Nat)) = Option.some (Go.Value.int Go.IntKind.i64 x_19)) ∧ Go.Sx.CallsV Go.Proofs.Tryd.prog (59 : Nat) #[Go.Value.int Go.IntKind.i64 x,
 Go.Value.int Go.IntKind.i64 x_19, Go.Value.pointer (Option.some (Go.Addr.mk g (0 : Nat) Option.none))] w' fun (v : Go.Value) (w' : Go.World) => ∃ (x : Bool), v = Go.Value.bool x ∧ S_1 w' ∧ S w' ∧ K
 (Go.Value.bool x) w' else K (Go.Value.bool Bool.false) w' else bif Decidable.decide (x = (27 : Int)) then ∃ (x : Int), Go.World.cell? w (Go.Addr.add (Go.Addr.mk g_1 (0 : Nat) Option.none) (1 : Nat)) =
 Option.some (Go.Value.int Go.IntKind.i64 x) ∧ ∃ (x_8 : Option Go.Addr), ∃ (x_9 : Nat), ∃ (x_10 : Nat), Go.World.cell? w (Go.Addr.add (Go.Addr.mk g (0 : Nat) Option.none) (3 : Nat)) = Option.some
 (Go.Value.slice x_8 x_9 x_10) ∧ Go.Sx.CallsV Go.Proofs.Tryd.prog (59 : Nat) #[Go.Value.int Go.IntKind.i64 x, Go.Value.int Go.IntKind.i64 (↑x_9 : Int), Go.Value.pointer (Option.some (Go.Addr.mk g (0 :
 Nat) Option.none))] w fun (v : Go.Value) (w' : Go.World) => ∃ (x : Bool), v = Go.Value.bool x ∧ K (Go.Value.bool x) w' else ∃ (J : Bool → Go.World → Prop), (∀ (x : Bool) (w : Go.World), J x w → bif x
 then bif Decidable.decide (atx = (0 : Int)) then ∃ (x : Option Go.Addr), ∃ (x_8 : Nat), ∃ (x_9 : Nat), Go.World.cell? w (Go.Addr.add (Go.Addr.mk g (0 : Nat) Option.none) (8 : Nat)) = Option.some
 (Go.Value.slice x x_8 x_9) ∧ K (Go.Value.bool (Decidable.decide ((↑x_8 : Int) = (2 : Int)))) w else K (Go.Value.bool Bool.false) w else K (Go.Value.bool Bool.true) w) ∧ bif Decidable.decide (x = (31 :
 Int)) then J (Decidable.decide (x = (31 : Int))) w else bif Decidable.decide (x = (32 : Int)) then J (Decidable.decide (x = (32 : Int))) w else bif Decidable.decide (x = (33 : Int)) then J
 (Decidable.decide (x = (33 : Int))) w else J (Decidable.decide (x = (34 : Int))) w) ∧ bif Decidable.decide (x = (14 : Int)) then J (Decidable.decide (x = (14 : Int))) w' else J (Decidable.decide (x =
 (16 : Int))) w'
theorem code_runs.eq (p0 : Int) (p1 : Int) (p2 : Int) (p3_A : Option Addr) (p3_n : Nat) (p3_c : Nat) (p4_A : Option Addr) (p4_n : Nat) (p4_c : Nat) (p5_A : Option Addr) (p5_n : Nat) (p5_c : Nat) (p6_A : Option Addr) (p6_n : Nat) (p6_c : Nat) (p7_A : Option Addr) (p7_n : Nat) (p7_c : Nat) (p8_A : Option Addr) (p8_n : Nat) (p8_c : Nat) (atx : Int) (w : World) (K : Value → World → Prop) : code_runs.W p0 p1 p2 p3_A p3_n p3_c p4_A p4_n p4_c p5_A p5_n p5_c p6_A p6_n p6_c p7_A p7_n p7_c p8_A p8_n p8_c atx w K = fnW Tryd.prog Tryd.f21 (.named (.seq .auto (.seq .auto (.seq .auto (.seq (.seq .auto (.block (.seq .auto (.cond .auto (.seq .auto (.cond .auto (.join [(58, .one .bool)] .auto (.cond .auto (.seq .auto (.cond .auto (.seq .auto (.cond .auto (.seq .auto (.cond .auto (.seq .auto (.cond .auto (.join [(120, .one .bool)] .auto .auto))))))))))))))))) .auto))))) [.agg #[.int .i64 p0, .int .i64 p1, .int .i64 p2, .slice p3_A p3_n p3_c, .slice p4_A p4_n p4_c, .slice p5_A p5_n p5_c, .slice p6_A p6_n p6_c, .slice p7_A p7_n p7_c, .slice p8_A p8_n p8_c], .int .i64 atx] w K := by kernel_rfl
theorem code_runs.calls (ok : Okay Tryd.prog) {p0 : Int} {p1 : Int} {p2 : Int} {p3_A : Option Addr} {p3_n : Nat} {p3_c : Nat} {p4_A : Option Addr} {p4_n : Nat} {p4_c : Nat} {p5_A : Option Addr} {p5_n : Nat} {p5_c : Nat} {p6_A : Option Addr} {p6_n : Nat} {p6_c : Nat} {p7_A : Option Addr} {p7_n : Nat} {p7_c : Nat} {p8_A : Option Addr} {p8_n : Nat} {p8_c : Nat} {atx : Int} {w : World} {K : Value → World → Prop} (h : code_runs.W p0 p1 p2 p3_A p3_n p3_c p4_A p4_n p4_c p5_A p5_n p5_c p6_A p6_n p6_c p7_A p7_n p7_c p8_A p8_n p8_c atx w K) : CallsV Tryd.prog 21 #[.agg #[.int .i64 p0, .int .i64 p1, .int .i64 p2, .slice p3_A p3_n p3_c, .slice p4_A p4_n p4_c, .slice p5_A p5_n p5_c, .slice p6_A p6_n p6_c, .slice p7_A p7_n p7_c, .slice p8_A p8_n p8_c], .int .i64 atx] w K :=
  fnW_calls ok Tryd.func21 (an := (.named (.seq .auto (.seq .auto (.seq .auto (.seq (.seq .auto (.block (.seq .auto (.cond .auto (.seq .auto (.cond .auto (.join [(58, .one .bool)] .auto (.cond .auto (.seq .auto (.cond .auto (.seq .auto (.cond .auto (.seq .auto (.cond .auto (.seq .auto (.cond .auto (.join [(120, .one .bool)] .auto .auto))))))))))))))))) .auto)))))) (args := [.agg #[.int .i64 p0, .int .i64 p1, .int .i64 p2, .slice p3_A p3_n p3_c, .slice p4_A p4_n p4_c, .slice p5_A p5_n p5_c, .slice p6_A p6_n p6_c, .slice p7_A p7_n p7_c, .slice p8_A p8_n p8_c], .int .i64 atx]) (by rw [← code_runs.eq]; exact h)
noncomputable def code_runs_1.W : Int → Int → Addr → World → (Value → World → Prop) → Prop := fun (fromx many : Int) (a2 : Go.Addr) (w : Go.World) (K : Go.Value → Go.World → Prop) => ∃ (x : Int),
 Go.World.cell? w (Go.Addr.add a2 (1 : Nat)) = Option.some (Go.Value.int Go.IntKind.i64 x) ∧ K (Go.Value.bool (Decidable.decide (many ≤ Go.IntKind.wrap Go.IntKind.i64 (x - fromx)))) w
theorem code_runs_1.eq (fromx : Int) (many : Int) (a2 : Addr) (w : World) (K : Value → World → Prop) : code_runs_1.W fromx many a2 w K = fnW Tryd.prog Tryd.f59 (.named .auto) [.int .i64 fromx, .int .i64 many, .pointer (some a2)] w K := by kernel_rfl
theorem code_runs_1.calls (ok : Okay Tryd.prog) {fromx : Int} {many : Int} {a2 : Addr} {w : World} {K : Value → World → Prop} (h : code_runs_1.W fromx many a2 w K) : CallsV Tryd.prog 59 #[.int .i64 fromx, .int .i64 many, .pointer (some a2)] w K :=
  fnW_calls ok Tryd.func59 (an := (.named .auto)) (args := [.int .i64 fromx, .int .i64 many, .pointer (some a2)]) (by rw [← code_runs_1.eq]; exact h)
noncomputable def code_Func.W : Int → World → (Value → World → Prop) → Prop := fun (d : Int) (w : Go.World) (K : Go.Value → Go.World → Prop) => Go.Sx.CallsV Go.Proofs.Tryd.prog (26 : Nat)
 #[Go.Value.string (ByteArray.mk #[(108 : UInt8), (101 : UInt8), (110 : UInt8), (103 : UInt8), (116 : UInt8), (104 : UInt8), (32 : UInt8), (117 : UInt8), (112 : UInt8), (112 : UInt8), (101 : UInt8),
 (114 : UInt8), (32 : UInt8), (108 : UInt8), (111 : UInt8), (119 : UInt8), (101 : UInt8), (114 : UInt8), (32 : UInt8), (97 : UInt8), (98 : UInt8), (115 : UInt8), (32 : UInt8), (116 : UInt8), (121 :
 UInt8), (112 : UInt8), (101 : UInt8), (111 : UInt8), (102 : UInt8), (32 : UInt8), (104 : UInt8), (101 : UInt8), (120 : UInt8), (32 : UInt8), (105 : UInt8), (102 : UInt8), (110 : UInt8), (117 : UInt8),
 (108 : UInt8), (108 : UInt8), (32 : UInt8), (105 : UInt8), (110 : UInt8), (115 : UInt8), (116 : UInt8), (114 : UInt8), (32 : UInt8), (115 : UInt8), (117 : UInt8), (98 : UInt8), (115 : UInt8), (116 :
 UInt8), (114 : UInt8), (32 : UInt8), (99 : UInt8), (111 : UInt8), (97 : UInt8), (108 : UInt8), (101 : UInt8), (115 : UInt8), (99 : UInt8), (101 : UInt8)]), Go.Value.int Go.IntKind.i64 d] w fun (v :
 Go.Value) (w' : Go.World) => ∃ (x : ByteArray), ∃ (x_1 : Bool), v = Go.Value.tuple #[Go.Value.string x, Go.Value.bool x_1] ∧ K (Go.Value.tuple #[Go.Value.string x, Go.Value.bool x_1]) w'
theorem code_Func.eq (d : Int) (w : World) (K : Value → World → Prop) : code_Func.W d w K = fnW Tryd.prog Tryd.f60 (.named .auto) [.int .i64 d] w K := by kernel_rfl
theorem code_Func.calls (ok : Okay Tryd.prog) {d : Int} {w : World} {K : Value → World → Prop} (h : code_Func.W d w K) : CallsV Tryd.prog 60 #[.int .i64 d] w K :=
  fnW_calls ok Tryd.func60 (an := (.named .auto)) (args := [.int .i64 d]) (by rw [← code_Func.eq]; exact h)
noncomputable def code_named.W : ByteArray → Int → World → (Value → World → Prop) → Prop := fun (words : ByteArray) (d : Int) (w : Go.World) (K : Go.Value → Go.World → Prop) => Go.Sx.CallsV
 Go.Proofs.Tryd.prog (12 : Nat) #[Go.Value.string words] w fun (v : Go.Value) (w' : Go.World) => ∃ (x : Option Go.Addr), ∃ (x_1 : Nat), ∃ (x_2 : Nat), v = Go.Value.slice x x_1 x_2 ∧ bif Decidable.decide
 (d < (0 : Int)) then K (Go.Value.tuple #[Go.Value.string (ByteArray.mk #[]), Go.Value.bool Bool.false]) w' else bif Decidable.decide ((↑x_1 : Int) ≤ d) then K (Go.Value.tuple #[Go.Value.string
 (ByteArray.mk #[]), Go.Value.bool Bool.false]) w' else ∃ (ad : Go.Addr), x = Option.some ad ∧ ((0 : Int) ≤ d ∧ d < (↑x_1 : Int)) ∧ ∃ (x : ByteArray), Go.World.cell? w' (Go.Addr.add ad (Int.toNat d * (1
 : Nat))) = Option.some (Go.Value.string x) ∧ K (Go.Value.tuple #[Go.Value.string x, Go.Value.bool Bool.true]) w'
theorem code_named.eq (words : ByteArray) (d : Int) (w : World) (K : Value → World → Prop) : code_named.W words d w K = fnW Tryd.prog Tryd.f26 (.named .auto) [.string words, .int .i64 d] w K := by kernel_rfl
theorem code_named.calls (ok : Okay Tryd.prog) {words : ByteArray} {d : Int} {w : World} {K : Value → World → Prop} (h : code_named.W words d w K) : CallsV Tryd.prog 26 #[.string words, .int .i64 d] w K :=
  fnW_calls ok Tryd.func26 (an := (.named .auto)) (args := [.string words, .int .i64 d]) (by rw [← code_named.eq]; exact h)
noncomputable def value_Known.W : ByteArray → Int → World → (Value → World → Prop) → Prop := fun (name : ByteArray) (args : Int) (w : Go.World) (K : Go.Value → Go.World → Prop) => ∃ (J : Bool →
 Go.World → Prop), (∀ (x : Bool) (w : Go.World), J x w → bif x then K (Go.Value.bool (Decidable.decide (args = (1 : Int)))) w else ∃ (J : Bool → Go.World → Prop), (∀ (x : Bool) (w : Go.World), J x w →
 bif x then K (Go.Value.bool (Decidable.decide (args = (2 : Int)))) w else bif ByteArray.toList name == ByteArray.toList (ByteArray.mk #[(115 : UInt8), (117 : UInt8), (98 : UInt8), (115 : UInt8), (116 :
 UInt8), (114 : UInt8)]) then bif Decidable.decide (args = (2 : Int)) then K (Go.Value.bool Bool.true) w else K (Go.Value.bool (Decidable.decide (args = (3 : Int)))) w else bif ByteArray.toList name ==
 ByteArray.toList (ByteArray.mk #[(99 : UInt8), (111 : UInt8), (97 : UInt8), (108 : UInt8), (101 : UInt8), (115 : UInt8), (99 : UInt8), (101 : UInt8)]) then bif Decidable.decide ((2 : Int) ≤ args) then
 K (Go.Value.bool (Decidable.decide (args ≤ (100 : Int)))) w else K (Go.Value.bool Bool.false) w else K (Go.Value.bool Bool.false) w) ∧ bif ByteArray.toList name == ByteArray.toList (ByteArray.mk #[(105
 : UInt8), (102 : UInt8), (110 : UInt8), (117 : UInt8), (108 : UInt8), (108 : UInt8)]) then J (ByteArray.toList name == ByteArray.toList (ByteArray.mk #[(105 : UInt8), (102 : UInt8), (110 : UInt8), (117
 : UInt8), (108 : UInt8), (108 : UInt8)])) w else J (ByteArray.toList name == ByteArray.toList (ByteArray.mk #[(105 : UInt8), (110 : UInt8), (115 : UInt8), (116 : UInt8), (114 : UInt8)])) w) ∧ bif
 ByteArray.toList name == ByteArray.toList (ByteArray.mk #[(108 : UInt8), (101 : UInt8), (110 : UInt8), (103 : UInt8), (116 : UInt8), (104 : UInt8)]) then J (ByteArray.toList name == ByteArray.toList
 (ByteArray.mk #[(108 : UInt8), (101 : UInt8), (110 : UInt8), (103 : UInt8), (116 : UInt8), (104 : UInt8)])) w else bif ByteArray.toList name == ByteArray.toList (ByteArray.mk #[(117 : UInt8), (112 :
 UInt8), (112 : UInt8), (101 : UInt8), (114 : UInt8)]) then J (ByteArray.toList name == ByteArray.toList (ByteArray.mk #[(117 : UInt8), (112 : UInt8), (112 : UInt8), (101 : UInt8), (114 : UInt8)])) w
 else bif ByteArray.toList name == ByteArray.toList (ByteArray.mk #[(108 : UInt8), (111 : UInt8), (119 : UInt8), (101 : UInt8), (114 : UInt8)]) then J (ByteArray.toList name == ByteArray.toList
 (ByteArray.mk #[(108 : UInt8), (111 : UInt8), (119 : UInt8), (101 : UInt8), (114 : UInt8)])) w else bif ByteArray.toList name == ByteArray.toList (ByteArray.mk #[(97 : UInt8), (98 : UInt8), (115 :
 UInt8)]) then J (ByteArray.toList name == ByteArray.toList (ByteArray.mk #[(97 : UInt8), (98 : UInt8), (115 : UInt8)])) w else bif ByteArray.toList name == ByteArray.toList (ByteArray.mk #[(116 :
 UInt8), (121 : UInt8), (112 : UInt8), (101 : UInt8), (111 : UInt8), (102 : UInt8)]) then J (ByteArray.toList name == ByteArray.toList (ByteArray.mk #[(116 : UInt8), (121 : UInt8), (112 : UInt8), (101 :
 UInt8), (111 : UInt8), (102 : UInt8)])) w else J (ByteArray.toList name == ByteArray.toList (ByteArray.mk #[(104 : UInt8), (101 : UInt8), (120 : UInt8)])) w
theorem value_Known.eq (name : ByteArray) (args : Int) (w : World) (K : Value → World → Prop) : value_Known.W name args w K = fnW Tryd.prog Tryd.f61 (.named (.seq .auto (.seq (.seq .auto (.block (.join [(6, .one .bool)] .auto (.cond .auto (.join [(15, .one .bool)] .auto .auto))))) .auto))) [.string name, .int .i64 args] w K := by kernel_rfl
theorem value_Known.calls (ok : Okay Tryd.prog) {name : ByteArray} {args : Int} {w : World} {K : Value → World → Prop} (h : value_Known.W name args w K) : CallsV Tryd.prog 61 #[.string name, .int .i64 args] w K :=
  fnW_calls ok Tryd.func61 (an := (.named (.seq .auto (.seq (.seq .auto (.block (.join [(6, .one .bool)] .auto (.cond .auto (.join [(15, .one .bool)] .auto .auto))))) .auto)))) (args := [.string name, .int .i64 args]) (by rw [← value_Known.eq]; exact h)
noncomputable def value_Right.W : Int → Int → ByteArray → World → (Value → World → Prop) → Prop := fun (v0 v1 : Int) (v2 : ByteArray) (w : Go.World) (K : Go.Value → Go.World → Prop) => ∀ (g : Nat) (w'
 : Go.World), Go.Sx.Fresh w g w' [Go.Value.int Go.IntKind.u8 v0, Go.Value.int Go.IntKind.i64 v1, Go.Value.string v2] (51 : Nat) → ∃ (x : Int), Go.World.cell? w' (Go.Addr.add (Go.Addr.mk g (0 : Nat)
 Option.none) (0 : Nat)) = Option.some (Go.Value.int Go.IntKind.u8 x) ∧ bif Decidable.decide (x = (0 : Int)) then ∃ (x : Int), Go.World.cell? w' (Go.Addr.add (Go.Addr.mk g (0 : Nat) Option.none) (1 :
 Nat)) = Option.some (Go.Value.int Go.IntKind.i64 x) ∧ bif Decidable.decide (x = (0 : Int)) then ∃ (x : ByteArray), Go.World.cell? w' (Go.Addr.add (Go.Addr.mk g (0 : Nat) Option.none) (2 : Nat)) =
 Option.some (Go.Value.string x) ∧ K (Go.Value.bool (ByteArray.toList x == ByteArray.toList (ByteArray.mk #[]))) w' else K (Go.Value.bool Bool.false) w' else bif Decidable.decide (x = (1 : Int)) then ∃
 (x : ByteArray), Go.World.cell? w' (Go.Addr.add (Go.Addr.mk g (0 : Nat) Option.none) (2 : Nat)) = Option.some (Go.Value.string x) ∧ K (Go.Value.bool (ByteArray.toList x == ByteArray.toList
 (ByteArray.mk #[]))) w' else bif Decidable.decide (x = (2 : Int)) then bif Decidable.decide (x = (2 : Int)) then ∃ (x : Int), Go.World.cell? w' (Go.Addr.add (Go.Addr.mk g (0 : Nat) Option.none) (1 :
 Nat)) = Option.some (Go.Value.int Go.IntKind.i64 x) ∧ bif Decidable.decide (x = (0 : Int)) then ∃ (x : ByteArray), Go.World.cell? w' (Go.Addr.add (Go.Addr.mk g (0 : Nat) Option.none) (2 : Nat)) =
 Option.some (Go.Value.string x) ∧ K (Go.Value.bool (Decidable.decide ((↑(ByteArray.size x) : Int) ≤ (65536 : Int)))) w' else K (Go.Value.bool Bool.false) w' else K (Go.Value.bool Bool.false) w' else
 bif Decidable.decide (x = (3 : Int)) then ∃ (x : Int), Go.World.cell? w' (Go.Addr.add (Go.Addr.mk g (0 : Nat) Option.none) (1 : Nat)) = Option.some (Go.Value.int Go.IntKind.i64 x) ∧ bif
 Decidable.decide (x = (0 : Int)) then ∃ (x : ByteArray), Go.World.cell? w' (Go.Addr.add (Go.Addr.mk g (0 : Nat) Option.none) (2 : Nat)) = Option.some (Go.Value.string x) ∧ K (Go.Value.bool
 (Decidable.decide ((↑(ByteArray.size x) : Int) ≤ (65536 : Int)))) w' else K (Go.Value.bool Bool.false) w' else K (Go.Value.bool Bool.false) w'
theorem value_Right.eq (v0 : Int) (v1 : Int) (v2 : ByteArray) (w : World) (K : Value → World → Prop) : value_Right.W v0 v1 v2 w K = fnW Tryd.prog Tryd.f37 (.named .auto) [.agg #[.int .u8 v0, .int .i64 v1, .string v2]] w K := by kernel_rfl
theorem value_Right.calls (ok : Okay Tryd.prog) {v0 : Int} {v1 : Int} {v2 : ByteArray} {w : World} {K : Value → World → Prop} (h : value_Right.W v0 v1 v2 w K) : CallsV Tryd.prog 37 #[.agg #[.int .u8 v0, .int .i64 v1, .string v2]] w K :=
  fnW_calls ok Tryd.func37 (an := (.named .auto)) (args := [.agg #[.int .u8 v0, .int .i64 v1, .string v2]]) (by rw [← value_Right.eq]; exact h)
noncomputable def agg_New.W : ByteArray → Bool → World → (Value → World → Prop) → Prop := fun (name : ByteArray) (distinct : Bool) (w : Go.World) (K : Go.Value → Go.World → Prop) => Go.Sx.CallsV
 Go.Proofs.Tryd.prog (71 : Nat) #[Go.Value.string name] w fun (v : Go.Value) (w' : Go.World) => ∃ (x : Bool), v = Go.Value.bool x ∧ bif !x then K (Go.Value.tuple #[Go.Value.pointer Option.none,
 Go.Value.int Go.IntKind.i64 (21 : Int)]) w' else bif distinct then bif ByteArray.toList name == ByteArray.toList (ByteArray.mk #[(99 : UInt8), (111 : UInt8), (117 : UInt8), (110 : UInt8), (116 :
 UInt8), (42 : UInt8)]) then K (Go.Value.tuple #[Go.Value.pointer Option.none, Go.Value.int Go.IntKind.i64 (2 : Int)]) w' else ∀ (g : Nat) (w'_1 : Go.World), Go.Sx.Fresh w' g w'_1 [Go.Value.string name,
 Go.Value.bool distinct, Go.Value.int Go.IntKind.i64 (0 : Int), Go.Value.int Go.IntKind.u64 (0 : Int), Go.Value.int Go.IntKind.u64 (0 : Int), Go.Value.int Go.IntKind.u8 (0 : Int), Go.Value.int
 Go.IntKind.i64 (0 : Int), Go.Value.string (ByteArray.mk #[]), Go.Value.slice Option.none (0 : Nat) (0 : Nat), Go.Value.map Option.none] (117 : Nat) → Go.Sx.CallsV Go.Proofs.Tryd.prog (72 : Nat)
 #[Go.Value.pointer (Option.some (Go.Addr.mk g (0 : Nat) Option.none))] w'_1 fun (v : Go.Value) (w' : Go.World) => v = Go.Value.tuple #[] ∧ K (Go.Value.tuple #[Go.Value.pointer (Option.some (Go.Addr.mk
 g (0 : Nat) Option.none)), Go.Value.int Go.IntKind.i64 (0 : Int)]) w' else ∀ (g : Nat) (w'_1 : Go.World), Go.Sx.Fresh w' g w'_1 [Go.Value.string name, Go.Value.bool distinct, Go.Value.int
 Go.IntKind.i64 (0 : Int), Go.Value.int Go.IntKind.u64 (0 : Int), Go.Value.int Go.IntKind.u64 (0 : Int), Go.Value.int Go.IntKind.u8 (0 : Int), Go.Value.int Go.IntKind.i64 (0 : Int), Go.Value.string
 (ByteArray.mk #[]), Go.Value.slice Option.none (0 : Nat) (0 : Nat), Go.Value.map Option.none] (117 : Nat) → Go.Sx.CallsV Go.Proofs.Tryd.prog (72 : Nat) #[Go.Value.pointer (Option.some (Go.Addr.mk g (0
 : Nat) Option.none))] w'_1 fun (v : Go.Value) (w' : Go.World) => v = Go.Value.tuple #[] ∧ K (Go.Value.tuple #[Go.Value.pointer (Option.some (Go.Addr.mk g (0 : Nat) Option.none)), Go.Value.int
 Go.IntKind.i64 (0 : Int)]) w'
theorem agg_New.eq (name : ByteArray) (distinct : Bool) (w : World) (K : Value → World → Prop) : agg_New.W name distinct w K = fnW Tryd.prog Tryd.f41 (.named .auto) [.string name, .bool distinct] w K := by kernel_rfl
theorem agg_New.calls (ok : Okay Tryd.prog) {name : ByteArray} {distinct : Bool} {w : World} {K : Value → World → Prop} (h : agg_New.W name distinct w K) : CallsV Tryd.prog 41 #[.string name, .bool distinct] w K :=
  fnW_calls ok Tryd.func41 (an := (.named .auto)) (args := [.string name, .bool distinct]) (by rw [← agg_New.eq]; exact h)
noncomputable def agg_Known.W : ByteArray → World → (Value → World → Prop) → Prop := fun (name : ByteArray) (w : Go.World) (K : Go.Value → Go.World → Prop) => bif ByteArray.toList name ==
 ByteArray.toList (ByteArray.mk #[(99 : UInt8), (111 : UInt8), (117 : UInt8), (110 : UInt8), (116 : UInt8)]) then bif ByteArray.toList name == ByteArray.toList (ByteArray.mk #[(99 : UInt8), (111 :
 UInt8), (117 : UInt8), (110 : UInt8), (116 : UInt8)]) then K (Go.Value.bool Bool.true) w else K (Go.Value.bool Bool.false) w else bif ByteArray.toList name == ByteArray.toList (ByteArray.mk #[(99 :
 UInt8), (111 : UInt8), (117 : UInt8), (110 : UInt8), (116 : UInt8), (42 : UInt8)]) then bif ByteArray.toList name == ByteArray.toList (ByteArray.mk #[(99 : UInt8), (111 : UInt8), (117 : UInt8), (110 :
 UInt8), (116 : UInt8), (42 : UInt8)]) then K (Go.Value.bool Bool.true) w else K (Go.Value.bool Bool.false) w else bif ByteArray.toList name == ByteArray.toList (ByteArray.mk #[(115 : UInt8), (117 :
 UInt8), (109 : UInt8)]) then bif ByteArray.toList name == ByteArray.toList (ByteArray.mk #[(115 : UInt8), (117 : UInt8), (109 : UInt8)]) then K (Go.Value.bool Bool.true) w else K (Go.Value.bool
 Bool.false) w else bif ByteArray.toList name == ByteArray.toList (ByteArray.mk #[(116 : UInt8), (111 : UInt8), (116 : UInt8), (97 : UInt8), (108 : UInt8)]) then bif ByteArray.toList name ==
 ByteArray.toList (ByteArray.mk #[(116 : UInt8), (111 : UInt8), (116 : UInt8), (97 : UInt8), (108 : UInt8)]) then K (Go.Value.bool Bool.true) w else K (Go.Value.bool Bool.false) w else bif
 ByteArray.toList name == ByteArray.toList (ByteArray.mk #[(109 : UInt8), (105 : UInt8), (110 : UInt8)]) then bif ByteArray.toList name == ByteArray.toList (ByteArray.mk #[(109 : UInt8), (105 : UInt8),
 (110 : UInt8)]) then K (Go.Value.bool Bool.true) w else K (Go.Value.bool Bool.false) w else bif ByteArray.toList name == ByteArray.toList (ByteArray.mk #[(109 : UInt8), (97 : UInt8), (120 : UInt8)])
 then bif ByteArray.toList name == ByteArray.toList (ByteArray.mk #[(109 : UInt8), (97 : UInt8), (120 : UInt8)]) then K (Go.Value.bool Bool.true) w else K (Go.Value.bool Bool.false) w else bif
 ByteArray.toList name == ByteArray.toList (ByteArray.mk #[(103 : UInt8), (114 : UInt8), (111 : UInt8), (117 : UInt8), (112 : UInt8), (95 : UInt8), (99 : UInt8), (111 : UInt8), (110 : UInt8), (99 :
 UInt8), (97 : UInt8), (116 : UInt8)]) then K (Go.Value.bool Bool.true) w else K (Go.Value.bool Bool.false) w
theorem agg_Known.eq (name : ByteArray) (w : World) (K : Value → World → Prop) : agg_Known.W name w K = fnW Tryd.prog Tryd.f71 (.named .auto) [.string name] w K := by kernel_rfl
theorem agg_Known.calls (ok : Okay Tryd.prog) {name : ByteArray} {w : World} {K : Value → World → Prop} (h : agg_Known.W name w K) : CallsV Tryd.prog 71 #[.string name] w K :=
  fnW_calls ok Tryd.func71 (an := (.named .auto)) (args := [.string name]) (by rw [← agg_Known.eq]; exact h)
noncomputable def agg_Acc_Reset.W : Option Addr → World → (Value → World → Prop) → Prop := fun (a : Option Go.Addr) (w : Go.World) (K : Go.Value → Go.World → Prop) => bif Option.isNone a then K
 (Go.Value.tuple #[]) w else ∃ (a_1 : Go.Addr), a = Option.some a_1 ∧ ∃ (x : ByteArray), Go.World.cell? w (Go.Addr.add a_1 (0 : Nat)) = Option.some (Go.Value.string x) ∧ bif ByteArray.toList x ==
 ByteArray.toList (ByteArray.mk #[]) then K (Go.Value.tuple #[]) w else ∃ (a_2 : Go.Addr), a = Option.some a_2 ∧ ∃ (S : Go.World → Prop), S (Go.World.drew w) ∧ ∃ (x : ByteArray), (∀ (u : Go.World), S u
 → Go.World.cell? u (Go.Addr.add a_2 (0 : Nat)) = Option.some (Go.Value.string x)) ∧ ∃ (a_3 : Go.Addr), a = Option.some a_3 ∧ ∃ (x_1 : Bool), (∀ (u : Go.World), S u → Go.World.cell? u (Go.Addr.add a_3
 (1 : Nat)) = Option.some (Go.Value.bool x_1)) ∧ ∃ (x_2 : Option Nat), ∃ (w' : Go.World), Go.Sx.RunsTo Go.Proofs.Tryd.prog (Go.Instr.makeMap (115 : Nat) Option.none) (Go.World.drew w) (Go.Value.map x_2)
 w' ∧ S w' ∧ ∃ (a_4 : Go.Addr), a = Option.some a_4 ∧ Go.Sx.stOK a_4 (0 : Nat) [Go.Value.string x, Go.Value.bool x_1, Go.Value.int Go.IntKind.i64 (0 : Int), Go.Value.int Go.IntKind.u64 (0 : Int),
 Go.Value.int Go.IntKind.u64 (0 : Int), Go.Value.int Go.IntKind.u8 (0 : Int), Go.Value.int Go.IntKind.i64 (0 : Int), Go.Value.string (ByteArray.mk #[]), Go.Value.slice Option.none (0 : Nat) (0 : Nat),
 Go.Value.map x_2] w' ∧ ∀ (w'_1 : Go.World), w'_1 = Go.Sx.setAll a_4 (0 : Nat) [Go.Value.string x, Go.Value.bool x_1, Go.Value.int Go.IntKind.i64 (0 : Int), Go.Value.int Go.IntKind.u64 (0 : Int),
 Go.Value.int Go.IntKind.u64 (0 : Int), Go.Value.int Go.IntKind.u8 (0 : Int), Go.Value.int Go.IntKind.i64 (0 : Int), Go.Value.string (ByteArray.mk #[]), Go.Value.slice Option.none (0 : Nat) (0 : Nat),
 Go.Value.map x_2] w' → K (Go.Value.tuple #[]) w'_1
theorem agg_Acc_Reset.eq (a : Option Addr) (w : World) (K : Value → World → Prop) : agg_Acc_Reset.W a w K = fnW Tryd.prog Tryd.f72 (.named .auto) [.pointer a] w K := by kernel_rfl
theorem agg_Acc_Reset.calls (ok : Okay Tryd.prog) {a : Option Addr} {w : World} {K : Value → World → Prop} (h : agg_Acc_Reset.W a w K) : CallsV Tryd.prog 72 #[.pointer a] w K :=
  fnW_calls ok Tryd.func72 (an := (.named .auto)) (args := [.pointer a]) (by rw [← agg_Acc_Reset.eq]; exact h)
end Go.Proofs.YtaifphjenebgoaaDoor
/- Contracts of the library at this program, laid by the kit. -/
namespace Go.Proofs
open Go.Shelf
def Tryd.lays171_ren : Go.Shelf.Ren := ⟨fun | 171 => 22 | 243 => 62 | 246 => 78 | 283 => 87 | 284 => 88 | 285 => 89 | 286 => 90 | 129 => 94 | 317 => 93 | 318 => 95 | 319 => 96 | 320 => 97 | 337 => 98 | 338 => 99 | n => n, fun | 3 => 3 | 9 => 9 | 2 => 2 | 4 => 4 | 171 => 139 | 0 => 0 | 53 => 108 | 37 => 45 | 5 => 5 | 173 => 142 | 212 => 149 | 51 => 103 | 20 => 20 | 213 => 150 | 46 => 137 | 232 => 154 | 233 => 155 | n => n, fun | 17 => 3 | 18 => 4 | 19 => 5 | n => n⟩
theorem Tryd.lays171 : Go.Proofs.Lays.n171 Tryd.prog Tryd.lays171_ren := {
  mixed := by kernel_rfl
  f129 := Tryd.func94.trans (congrArg some (by kernel_rfl))
  f171 := Tryd.func22.trans (congrArg some (by kernel_rfl))
  f243 := Tryd.func62.trans (congrArg some (by kernel_rfl))
  f246 := Tryd.func78.trans (congrArg some (by kernel_rfl))
  f283 := Tryd.func87.trans (congrArg some (by kernel_rfl))
  f284 := Tryd.func88.trans (congrArg some (by kernel_rfl))
  f285 := Tryd.func89.trans (congrArg some (by kernel_rfl))
  f286 := Tryd.func90.trans (congrArg some (by kernel_rfl))
  f317 := Tryd.func93.trans (congrArg some (by kernel_rfl))
  f318 := Tryd.func95.trans (congrArg some (by kernel_rfl))
  f319 := Tryd.func96.trans (congrArg some (by kernel_rfl))
  f320 := Tryd.func97.trans (congrArg some (by kernel_rfl))
  f337 := Tryd.func98.trans (congrArg some (by kernel_rfl))
  f338 := Tryd.func99.trans (congrArg some (by kernel_rfl))
  t0 := Tryd.underlying0
  a0 := Tryd.isAgg0
  z0 := Tryd.sizeOf0
  v0 := Tryd.zeroValue0
  t2 := Tryd.underlying2
  a2 := Tryd.isAgg2
  z2 := Tryd.sizeOf2
  v2 := Tryd.zeroValue2
  t3 := Tryd.underlying3
  a3 := Tryd.isAgg3
  z3 := Tryd.sizeOf3
  v3 := Tryd.zeroValue3
  t4 := Tryd.underlying4
  a4 := Tryd.isAgg4
  z4 := Tryd.sizeOf4
  v4 := Tryd.zeroValue4
  t5 := Tryd.underlying5
  a5 := Tryd.isAgg5
  z5 := Tryd.sizeOf5
  v5 := Tryd.zeroValue5
  t9 := Tryd.underlying9
  a9 := Tryd.isAgg9
  z9 := Tryd.sizeOf9
  v9 := Tryd.zeroValue9
  t20 := Tryd.underlying20
  a20 := Tryd.isAgg20
  z20 := Tryd.sizeOf20
  v20 := Tryd.zeroValue20
  t37 := Tryd.underlying45
  a37 := Tryd.isAgg45
  z37 := Tryd.sizeOf45
  v37 := Tryd.zeroValue45
  t46 := Tryd.underlying137
  a46 := Tryd.isAgg137
  z46 := Tryd.sizeOf137
  v46 := Tryd.zeroValue137
  t51 := Tryd.underlying103
  a51 := Tryd.isAgg103
  z51 := Tryd.sizeOf103
  v51 := Tryd.zeroValue103
  t53 := Tryd.underlying108
  a53 := Tryd.isAgg108
  z53 := Tryd.sizeOf108
  v53 := Tryd.zeroValue108
  t171 := Tryd.underlying139
  a171 := Tryd.isAgg139
  z171 := Tryd.sizeOf139
  v171 := Tryd.zeroValue139
  t173 := Tryd.underlying142
  a173 := Tryd.isAgg142
  z173 := Tryd.sizeOf142
  v173 := Tryd.zeroValue142
  t212 := Tryd.underlying149
  a212 := Tryd.isAgg149
  z212 := Tryd.sizeOf149
  v212 := Tryd.zeroValue149
  t213 := Tryd.underlying150
  a213 := Tryd.isAgg150
  z213 := Tryd.sizeOf150
  t232 := Tryd.underlying154
  a232 := Tryd.isAgg154
  z232 := Tryd.sizeOf154
  v232 := Tryd.zeroValue154
  t233 := Tryd.underlying155
  a233 := Tryd.isAgg155
  z233 := Tryd.sizeOf155
  v233 := Tryd.zeroValue155
  g17 := by kernel_rfl
  g18 := by kernel_rfl
  g19 := by kernel_rfl }
open Go.RowKit Go.Sort Go.Lib in
/-- THE ROAD WITHOUT THE TABLE: 0 <= i < 100: NO PREMISE ON THE WORLD, AND THE WORLD IS AS IT WAS: a row that keeps its argument in that range need list no table ('laid = []'). (LAID: no walk: one application.) -/
theorem Tryd.strconv_Itoa_small (i : Nat) (hi : i < 100) (w : World) :
    Calls Tryd.prog 22 #[.int .i64 i] w fun e w' => e = .returned (.string ⟨(Lib.decDigits i).toArray⟩) ∧ w' = w := Any.strconv_Itoa_small Tryd.lays171 i hi w
def Tryd.lays157_ren : Go.Shelf.Ren := ⟨fun | 157 => 12 | 229 => 23 | 199 => 24 | 261 => 63 | 311 => 79 | 312 => 80 | n => n, fun | 9 => 9 | 31 => 22 | 3 => 3 | 5 => 5 | 4 => 4 | 119 => 63 | 0 => 0 | 40 => 65 | 152 => 100 | 21 => 21 | 154 => 102 | 51 => 103 | 141 => 105 | 196 => 127 | 193 => 124 | 198 => 130 | 49 => 128 | 194 => 125 | 201 => 133 | 226 => 144 | 46 => 137 | 227 => 145 | n => n, fun | 0 => 0 | 6 => 1 | n => n⟩
theorem Tryd.lays157 : Go.Proofs.Lays.n157 Tryd.prog Tryd.lays157_ren := {
  mixed := by kernel_rfl
  f157 := Tryd.func12.trans (congrArg some (by kernel_rfl))
  f199 := Tryd.func24.trans (congrArg some (by kernel_rfl))
  f229 := Tryd.func23.trans (congrArg some (by kernel_rfl))
  f261 := Tryd.func63.trans (congrArg some (by kernel_rfl))
  f311 := Tryd.func79.trans (congrArg some (by kernel_rfl))
  f312 := Tryd.func80.trans (congrArg some (by kernel_rfl))
  t0 := Tryd.underlying0
  a0 := Tryd.isAgg0
  z0 := Tryd.sizeOf0
  v0 := Tryd.zeroValue0
  t3 := Tryd.underlying3
  a3 := Tryd.isAgg3
  z3 := Tryd.sizeOf3
  v3 := Tryd.zeroValue3
  t4 := Tryd.underlying4
  a4 := Tryd.isAgg4
  z4 := Tryd.sizeOf4
  v4 := Tryd.zeroValue4
  t5 := Tryd.underlying5
  a5 := Tryd.isAgg5
  z5 := Tryd.sizeOf5
  v5 := Tryd.zeroValue5
  t9 := Tryd.underlying9
  a9 := Tryd.isAgg9
  z9 := Tryd.sizeOf9
  v9 := Tryd.zeroValue9
  t21 := Tryd.underlying21
  a21 := Tryd.isAgg21
  z21 := Tryd.sizeOf21
  v21 := Tryd.zeroValue21
  t31 := Tryd.underlying22
  a31 := Tryd.isAgg22
  z31 := Tryd.sizeOf22
  v31 := Tryd.zeroValue22
  t40 := Tryd.underlying65
  a40 := Tryd.isAgg65
  z40 := Tryd.sizeOf65
  v40 := Tryd.zeroValue65
  t46 := Tryd.underlying137
  a46 := Tryd.isAgg137
  z46 := Tryd.sizeOf137
  v46 := Tryd.zeroValue137
  t49 := Tryd.underlying128
  a49 := Tryd.isAgg128
  z49 := Tryd.sizeOf128
  v49 := Tryd.zeroValue128
  t51 := Tryd.underlying103
  a51 := Tryd.isAgg103
  z51 := Tryd.sizeOf103
  v51 := Tryd.zeroValue103
  t119 := Tryd.underlying63
  a119 := Tryd.isAgg63
  z119 := Tryd.sizeOf63
  t141 := Tryd.underlying105
  a141 := Tryd.isAgg105
  z141 := Tryd.sizeOf105
  v141 := Tryd.zeroValue105
  t152 := Tryd.underlying100
  a152 := Tryd.isAgg100
  z152 := Tryd.sizeOf100
  v152 := Tryd.zeroValue100
  t154 := Tryd.underlying102
  a154 := Tryd.isAgg102
  z154 := Tryd.sizeOf102
  v154 := Tryd.zeroValue102
  t193 := Tryd.underlying124
  a193 := Tryd.isAgg124
  z193 := Tryd.sizeOf124
  v193 := Tryd.zeroValue124
  t194 := Tryd.underlying125
  a194 := Tryd.isAgg125
  z194 := Tryd.sizeOf125
  v194 := Tryd.zeroValue125
  t196 := Tryd.underlying127
  a196 := Tryd.isAgg127
  z196 := Tryd.sizeOf127
  v196 := Tryd.zeroValue127
  t198 := Tryd.underlying130
  a198 := Tryd.isAgg130
  z198 := Tryd.sizeOf130
  v198 := Tryd.zeroValue130
  t201 := Tryd.underlying133
  a201 := Tryd.isAgg133
  z201 := Tryd.sizeOf133
  v201 := Tryd.zeroValue133
  t226 := Tryd.underlying144
  a226 := Tryd.isAgg144
  z226 := Tryd.sizeOf144
  v226 := Tryd.zeroValue144
  t227 := Tryd.underlying145
  a227 := Tryd.isAgg145
  z227 := Tryd.sizeOf145
  v227 := Tryd.zeroValue145
  g0 := by kernel_rfl
  g6 := by kernel_rfl }
open Go.RowKit Go.Lib in
/-- strings.Fields, the table by 'Lib.TabIs' (as strings.TrimSpace's contract). 'hg': the table's number, by its name: at a dump 'by kernel_rfl'. (LAID: no walk: one application.) -/
theorem Tryd.strings_Fields (s : ByteArray) (w : World) (hs : s.size < 4294967281) (hascii : ∀ (j : Nat) b, s.data.toList[j]? = some b → b.toNat < 128) (htab : Lib.TabIs Tryd.prog w "strings.asciiSpace" .u8 Lib.asciiSpaceTab) :
    Calls Tryd.prog 12 #[.string s] w fun e w' =>
      e = .returned (.slice (some ⟨w.heap.size, 0, none⟩) (Lib.fields s.data.toList).length (Lib.fields s.data.toList).length) ∧ w' = w.alloc (.cells ((Lib.fields s.data.toList).map fun l => Value.string ⟨l.toArray⟩).toArray 9) := Any.strings_Fields Tryd.lays157 (by kernel_rfl) (by kernel_rfl) s w hs hascii htab
end Go.Proofs
/- Layer 15, plain: programs; which may be. -/
set_option linter.unusedVariables false
set_option linter.unusedSimpArgs false
namespace K15
open Go.Sx R1
structure Cur where
  name : ByteArray
  ix : Bool
  wr : Bool
structure Srt where
  desc : List Bool
  cols : Int
  dist : Bool
structure Tot where
  fn : ByteArray
  dist : Bool
structure Ins where
  op : Int
  a : Int
  b : Int
  c : Int
  d : Int
structure Prog where
  ver : Int
  regs : Int
  binds : Int
  names : List ByteArray
  consts : List V
  curs : List Cur
  sorts : List Srt
  tots : List Tot
  code : List Ins
def C0 : Cur := ⟨ByteArray.empty, false, false⟩
def S0 : Srt := ⟨[], 0, false⟩
def T0 : Tot := ⟨ByteArray.empty, false⟩
def I0 : Ins := ⟨0, 0, 0, 0, 0⟩
def within (n low high : Int) : Bool := decide (low ≤ n) && decide (n ≤ high)
def longN (s : ByteArray) : Bool := decide (200 < s.size)
def wrongV (v : V) : Bool := !right v
def badCur (c : Cur) : Bool := decide (c.name.size = 0) || (decide (200 < c.name.size) || (c.ix && c.wr))
def badSrt (s : Srt) : Bool := decide (30 < s.desc.length) || !within s.cols 1 60
def knownT (n : List UInt8) : Bool := decide (n = [99, 111, 117, 110, 116] ∨ n = [99, 111, 117, 110, 116, 42] ∨ n = [115, 117, 109] ∨ n = [116, 111, 116, 97, 108] ∨ n = [109, 105, 110] ∨ n = [109, 97, 120] ∨ n = [103, 114, 111, 117, 112, 95, 99, 111, 110, 99, 97, 116])
def newT (n : List UInt8) (d : Bool) : Int := if knownT n then (if d && decide (n = [99, 111, 117, 110, 116, 42]) then 2 else 0) else 21
def badTot (t : Tot) : Bool := !decide (newT (sb t.fn) t.dist = 0)
def partsP (p : Prog) : Bool :=
  within p.ver 1 1099511627776 && (within p.regs 1 250 && (within p.binds 0 1000 && (decide (p.names.length ≤ 200) && (decide (p.consts.length ≤ 1000) && (decide (p.curs.length ≤ 12) && (decide (p.sorts.length ≤ 6) && (decide (p.tots.length ≤ 60) &&
  (!p.names.any longN && (!p.consts.any wrongV && (!p.curs.any badCur && (!p.sorts.any badSrt && !p.tots.any badTot)))))))))))
end K15
/- Layer 15, plain: what a letter says of a number. -/
set_option linter.unusedVariables false
set_option linter.unusedSimpArgs false
namespace K15
open Go.Sx R1
def below (n high : Int) : Bool := decide (0 ≤ n) && decide (n < high)
def curAt (p : Prog) (n : Int) : Cur := p.curs.getD n.toNat C0
def constAt (p : Prog) (n : Int) : V := p.consts.getD n.toNat ⟨0, 0, ByteArray.empty⟩
def fieldP (p : Prog) (t l n : Int) : Bool :=
  if l = 45 then decide (n = 0)
  else if l = 114 then below n p.regs
  else if l = 107 then below n p.consts.length
  else if l = 98 then below n p.binds
  else if l = 115 then below n p.sorts.length
  else if l = 116 then below n p.tots.length
  else if l = 99 then below n p.curs.length
  else if l = 50 then below n 15
  else if l = 49 then below n 2
  else if l = 102 then below n 10
  else if l = 120 then below n 60
  else if l = 106 then decide (t < n) && decide (n < p.code.length)
  else if l = 110 then decide (1 ≤ n) && decide (n ≤ t)
  else if l = 109 then decide (1 ≤ n) && decide (n ≤ p.regs)
  else if l = 105 then below n p.curs.length && (curAt p n).ix
  else if l = 108 then below n p.curs.length && !(curAt p n).ix
  else if l = 119 then below n p.curs.length && (!(curAt p n).ix && (curAt p n).wr)
  else if l = 113 then below n p.consts.length && decide ((constAt p n).k = 2)
  else false
/-- what each instruction has, a letter each -/
def shapes : List (Int × List UInt8) := [(1, [114, 107, 45, 45]), (2, [114, 98, 45, 45]), (3, [114, 114, 45, 45]), (4, [114, 114, 114, 50]), (5, [114, 114, 45, 49]), (6, [114, 114, 45, 49]), (7, [114, 114, 45, 49]), (8, [114, 114, 109, 102]), (9, [114, 45, 45, 49]), (10, [106, 45, 45, 45]), (11, [106, 114, 45, 45]), (12, [106, 114, 114, 109]), (13, [99, 106, 45, 45]), (14, [105, 106, 114, 109]), (15, [99, 110, 45, 45]), (16, [105, 106, 114, 109]), (17, [108, 106, 114, 45]), (18, [114, 99, 120, 45]), (19, [114, 99, 45, 45]), (20, [115, 114, 114, 45]), (21, [115, 106, 45, 45]), (22, [115, 110, 45, 45]), (23, [114, 115, 120, 45]), (24, [116, 45, 45, 45]), (25, [116, 114, 45, 45]), (26, [114, 116, 45, 45]), (27, [114, 45, 45, 45]), (28, [114, 119, 45, 45]), (29, [119, 114, 114, 45]), (30, [119, 114, 45, 45]), (31, [113, 45, 45, 45]), (32, [45, 45, 45, 45]), (33, [45, 45, 45, 45]), (34, [45, 45, 45, 45]), (35, [45, 45, 45, 45])]
def lookS : List (Int × List UInt8) → Int → List UInt8
  | [], _ => []
  | (k, l) :: r, o => if o = k then l else lookS r o
def shapeP (o : Int) : List UInt8 := lookS shapes o
/-- the letters -/
def letters : List Int := [45, 114, 107, 98, 115, 116, 99, 50, 49, 102, 120, 106, 110, 109, 105, 108, 119, 113]
def srtAt (p : Prog) (n : Int) : Srt := p.sorts.getD n.toNat S0
def fieldsL (p : Prog) (t : Int) (i : Ins) : List UInt8 → Bool
  | [x, y, z, u] => fieldP p t x.toNat i.a && (fieldP p t y.toNat i.b && (fieldP p t z.toNat i.c && fieldP p t u.toNat i.d))
  | _ => false
/-- are the numbers of an instruction what its letters say? -/
def fieldsP (p : Prog) (t : Int) (i : Ins) : Bool := fieldsL p t i (shapeP i.op)
def fnNames : List (List UInt8) := [[108, 101, 110, 103, 116, 104], [117, 112, 112, 101, 114], [108, 111, 119, 101, 114], [97, 98, 115], [116, 121, 112, 101, 111, 102], [104, 101, 120], [105, 102, 110, 117, 108, 108], [105, 110, 115, 116, 114], [115, 117, 98, 115, 116, 114], [99, 111, 97, 108, 101, 115, 99, 101]]
def knownF (n : List UInt8) (c : Int) : Bool :=
  if n = [108, 101, 110, 103, 116, 104] ∨ n = [117, 112, 112, 101, 114] ∨ n = [108, 111, 119, 101, 114] ∨ n = [97, 98, 115] ∨ n = [116, 121, 112, 101, 111, 102] ∨ n = [104, 101, 120] then decide (c = 1)
  else if n = [105, 102, 110, 117, 108, 108] ∨ n = [105, 110, 115, 116, 114] then decide (c = 2)
  else if n = [115, 117, 98, 115, 116, 114] then decide (c = 2) || decide (c = 3)
  else if n = [99, 111, 97, 108, 101, 115, 99, 101] then decide (2 ≤ c) && decide (c ≤ 100) else false
def fnAt (d : Int) : List UInt8 := if d < 0 ∨ (fnNames.length : Int) ≤ d then [] else fnNames.getD d.toNat []
def fitsP (p : Prog) (f m : Int) : Bool := decide (m ≤ p.regs - f)
def runsP (p : Prog) (t : Int) (i : Ins) : Bool :=
  if i.op = 8 then decide (i.c ≤ 100) && (fitsP p i.b i.c && knownF (fnAt i.d) i.c)
  else if i.op = 12 then fitsP p i.b i.d && fitsP p i.c i.d
  else if i.op = 14 ∨ i.op = 16 then fitsP p i.c i.d
  else if i.op = 18 then decide (i.c < 30)
  else if i.op = 23 then decide (i.c < (srtAt p i.b).cols)
  else if i.op = 20 then fitsP p i.b (srtAt p i.a).desc.length && fitsP p i.c (srtAt p i.a).cols
  else if i.op = 27 then fitsP p i.a p.names.length
  else if i.op = 31 ∨ i.op = 32 ∨ i.op = 33 ∨ i.op = 34 then decide (t = 0) && decide (p.code.length = 2)
  else true
/-- may an instruction stand at a place? -/
def okAt (p : Prog) (t : Nat) (i : Ins) : Bool := fieldsP p t i && runsP p t i
def okFrom (p : Prog) : Nat → List Ins → Bool
  | _, [] => true
  | t, i :: l => okAt p t i && okFrom p (t + 1) l
/-- may a program be? -/
def checkP (p : Prog) : Bool := partsP p && (decide (1 ≤ p.code.length) && (decide (p.code.length ≤ 4000) && (decide ((p.code.getD (p.code.length - 1) I0).op = 35) && okFrom p 0 p.code)))
end K15
/- Layer 15 (code): names of functions, which totals there are. -/
set_option linter.unusedVariables false
set_option linter.unusedSimpArgs false
namespace Go.Proofs.YtaifphjenebgoaaDoor
open Go Go.Sx K15
/-- the table of blanks lies in the world -/
def Tab (w : World) : Prop := Lib.TabIs Tryd.prog w "strings.asciiSpace" .u8 Lib.asciiSpaceTab
theorem Tab.ext {w w' : World} (h : Tab w) (e : Ext w w') : Tab w' := by
  unfold Tab Lib.TabIs World.var? at *
  cases hg : Tryd.prog.globalNamed "strings.asciiSpace" with
  | none => rw [hg] at h; cases h
  | some g =>
    rw [hg] at h
    simp only [Option.bind_some] at h ⊢
    cases hb : w.heap[g]? with
    | none => rw [hb] at h; cases h
    | some o =>
      rw [(e.block g (Array.getElem?_eq_some_iff.1 hb).1 (fun h => h)), hb]
      rw [hb] at h
      exact h
theorem part1 {α : Type} {l : List α} {i : Nat} {x : α} (h : l[i]? = some x) : (l.drop i).take 1 = [x] := by
  obtain ⟨hlt, rfl⟩ := List.getElem?_eq_some_iff.1 h
  rw [List.drop_eq_getElem_cons hlt]; rfl
theorem cntF_le : ∀ (l : List UInt8) (b : Bool), Lib.cntF b l ≤ l.length
  | [], _ => Nat.le_refl _
  | x :: l, b => by
    have := cntF_le l (Lib.isSp x)
    rw [Lib.cntF, List.length_cons]
    split <;> omega
theorem fields_le (l : List UInt8) : (Lib.fields l).length ≤ l.length := by
  have := Lib.fieldsGo_length l []
  have h2 := cntF_le l true
  show (Lib.fieldsGo [] l).length ≤ _
  rw [this]
  simp only [List.isEmpty_nil, if_true]
  omega
/-- a string of a list's bytes -/
def bs (l : List UInt8) : ByteArray := ⟨l.toArray⟩
theorem bs_sb (s : ByteArray) : bs (sb s) = s := rfl
theorem Fields_spec {w : World} (hT : Tab w) (s : ByteArray) (hs : s.size < 1000) (ha : ∀ b ∈ sb s, b.toNat < 128) :
    CallsV Tryd.prog 12 #[.string s] w fun r w' => ∃ A, r = .slice A (Lib.fields (sb s)).length (Lib.fields (sb s)).length ∧ Imm Kd.str NoB w' A ((Lib.fields (sb s)).map bs) ∧ Ext w w' := by
  refine Calls.mono (Tryd.strings_Fields s w (by omega) (fun j b hj => ha b (List.mem_of_getElem? hj)) hT) ?_
  rintro e w' ⟨he, rfl⟩
  refine ⟨_, he, _, rfl, ?_, Fr.alloc NoB w _⟩
  have hl : (Lib.fields (sb s)).length ≤ maxLen := by
    have := fields_le (sb s)
    rw [sb_length] at this
    simp only [maxLen]; omega
  have := (ownK_lit (K := Kd.str) (w := w) (cs := (Lib.fields s.data.toList).map fun l => Value.string ⟨l.toArray⟩) (e := 9) (l := (Lib.fields (sb s)).map bs) (by simp [Kd.str, sb]) (by simpa using hl) (fun i a hi => by
    rw [List.getElem?_map] at hi
    cases hq : (Lib.fields (sb s))[i]? with
    | none => rw [hq] at hi; cases hi
    | some x =>
      rw [hq] at hi
      cases hi
      show ((((Lib.fields (sb s)).map fun l => Value.string ⟨l.toArray⟩).drop (i * 1)).take 1) = [.string (bs x)]
      rw [Nat.mul_one, part1 (x := Value.string (bs x)) (by rw [List.getElem?_map, hq]; rfl)])).imm (by decide)
  exact this
/-- the d-th of some words -/
def nth (l : List (List UInt8)) (d : Int) : List UInt8 × Bool := if d < 0 ∨ (l.length : Int) ≤ d then ([], false) else (l.getD d.toNat [], true)
theorem named_spec {w : World} (hT : Tab w) (s : ByteArray) (hs : s.size < 1000) (ha : ∀ b ∈ sb s, b.toNat < 128) (d : Int) :
    CallsV Tryd.prog 26 #[.string s, .int .i64 d] w fun r w' => r = .tuple #[.string (bs (nth (Lib.fields (sb s)) d).1), .bool (nth (Lib.fields (sb s)) d).2] ∧ Ext w w' := by
  refine code_named.calls okay ?_
  unfold code_named.W nth
  refine (Fields_spec hT s hs ha).mono ?_
  rintro _ w1 ⟨A, rfl, hi, e⟩
  refine ⟨_, _, _, rfl, ?_⟩
  refine brd (fun h => ⟨by rw [if_pos (.inl h)]; rfl, e⟩) (fun h1 => brd (fun h => ⟨by rw [if_pos (.inr h)]; rfl, e⟩) (fun h2 => ?_))
  rw [if_neg (by omega)]
  have hlt : d.toNat < ((Lib.fields (sb s)).map bs).length := by rw [List.length_map]; omega
  obtain ⟨ad, hA, cs, hrep, hc⟩ := hi.get1 hlt
  have hrep : cs = [.string _] := hrep
  subst hrep
  have hlt2 : d.toNat < (Lib.fields (sb s)).length := by rwa [List.length_map] at hlt
  refine ⟨ad, hA, ⟨by omega, by omega⟩, _, hc 0 _ rfl, ?_, e⟩
  rw [List.getElem_map]
  simp [List.getD, hlt2]
def fWords : ByteArray := ByteArray.mk #[108, 101, 110, 103, 116, 104, 32, 117, 112, 112, 101, 114, 32, 108, 111, 119, 101, 114, 32, 97, 98, 115, 32, 116, 121, 112, 101, 111, 102, 32, 104, 101, 120, 32, 105, 102, 110, 117, 108, 108, 32, 105, 110, 115, 116, 114, 32, 115, 117, 98, 115, 116, 114, 32, 99, 111, 97, 108, 101, 115, 99, 101]
abbrev fNames : List (List UInt8) := K15.fnNames
theorem fFields : Lib.fields (sb fWords) = fNames := by decide +kernel
theorem fAscii : ∀ b ∈ sb fWords, b.toNat < 128 := by decide +kernel
theorem Func_spec {w : World} (hT : Tab w) (d : Int) :
    CallsV Tryd.prog 60 #[.int .i64 d] w fun r w' => r = .tuple #[.string (bs (nth fNames d).1), .bool (nth fNames d).2] ∧ Ext w w' := by
  refine code_Func.calls okay ?_
  unfold code_Func.W
  refine (named_spec hT fWords (by decide) fAscii d).mono ?_
  rw [fFields]
  rintro _ w1 ⟨rfl, e⟩
  exact ⟨_, _, rfl, rfl, e⟩
theorem Known_spec (w : World) (n : List UInt8) (c : Int) : CallsV Tryd.prog 61 #[.string (bs n), .int .i64 c] w fun r w' => r = .bool (knownF n c) ∧ w' = w := by
  refine value_Known.calls okay ?_
  unfold value_Known.W knownF
  refine ⟨fun x u => x = decide (n = [108, 101, 110, 103, 116, 104] ∨ n = [117, 112, 112, 101, 114] ∨ n = [108, 111, 119, 101, 114] ∨ n = [97, 98, 115] ∨ n = [116, 121, 112, 101, 111, 102] ∨ n = [104, 101, 120]) ∧ u = w, ?_, ?_⟩
  · rintro x u ⟨rfl, hu⟩
    obtain rfl : w = u := hu.symm
    by_cases h1 : n = [108, 101, 110, 103, 116, 104] ∨ n = [117, 112, 112, 101, 114] ∨ n = [108, 111, 119, 101, 114] ∨ n = [97, 98, 115] ∨ n = [116, 121, 112, 101, 111, 102] ∨ n = [104, 101, 120]
    · rw [decide_eq_true h1, cond_true, if_pos h1]; exact ⟨rfl, rfl⟩
    · rw [decide_eq_false h1, cond_false, if_neg h1]
      refine ⟨fun x u => x = decide (n = [105, 102, 110, 117, 108, 108] ∨ n = [105, 110, 115, 116, 114]) ∧ u = w, ?_, ?_⟩
      · rintro x u ⟨rfl, hu⟩
        obtain rfl : w = u := hu.symm
        by_cases h2 : n = [105, 102, 110, 117, 108, 108] ∨ n = [105, 110, 115, 116, 114]
        · rw [decide_eq_true h2, cond_true, if_pos h2]; exact ⟨rfl, rfl⟩
        · rw [decide_eq_false h2, cond_false, if_neg h2]
          refine brS (fun h => ?_) (fun h => ?_)
          · rw [if_pos h]
            exact brd (fun h3 => ⟨by rw [decide_eq_true h3]; rfl, rfl⟩) (fun h3 => ⟨by rw [decide_eq_false h3]; rfl, rfl⟩)
          · rw [if_neg h]
            refine brS (fun h4 => ?_) (fun h4 => ?_)
            · rw [if_pos h4]
              exact brd (fun h3 => ⟨by rw [decide_eq_true h3]; rfl, rfl⟩) (fun h3 => ⟨by rw [decide_eq_false h3]; rfl, rfl⟩)
            · rw [if_neg h4]; exact ⟨rfl, rfl⟩
      · refine brS (fun h => ⟨?_, rfl⟩) (fun h => ⟨?_, rfl⟩)
        · exact (eq_str n [105, 102, 110, 117, 108, 108]).trans (by rw [decide_eq_true h, decide_eq_true (.inl h)])
        · refine (eq_str n [105, 110, 115, 116, 114]).trans ?_
          exact decide_eq_decide.2 ⟨.inr, fun q => q.resolve_left h⟩
  · have fin : ∀ {x : Bool} {p : Prop} [Decidable p], x = decide p → (p ↔ (n = [108, 101, 110, 103, 116, 104] ∨ n = [117, 112, 112, 101, 114] ∨ n = [108, 111, 119, 101, 114] ∨ n = [97, 98, 115] ∨ n = [116, 121, 112, 101, 111, 102] ∨ n = [104, 101, 120])) → x = decide (n = [108, 101, 110, 103, 116, 104] ∨ n = [117, 112, 112, 101, 114] ∨ n = [108, 111, 119, 101, 114] ∨ n = [97, 98, 115] ∨ n = [116, 121, 112, 101, 111, 102] ∨ n = [104, 101, 120]) := fun h1 h2 => by rw [h1]; exact decide_eq_decide.2 h2
    refine brS (fun h => ⟨fin (eq_str n _) ⟨fun q => .inl q, fun _ => h⟩, rfl⟩) (fun h1 => ?_)
    refine brS (fun h => ⟨fin (eq_str n _) ⟨fun q => .inr (.inl q), fun _ => h⟩, rfl⟩) (fun h2 => ?_)
    refine brS (fun h => ⟨fin (eq_str n _) ⟨fun q => .inr (.inr (.inl q)), fun _ => h⟩, rfl⟩) (fun h3 => ?_)
    refine brS (fun h => ⟨fin (eq_str n _) ⟨fun q => .inr (.inr (.inr (.inl q))), fun _ => h⟩, rfl⟩) (fun h4 => ?_)
    refine brS (fun h => ⟨fin (eq_str n _) ⟨fun q => .inr (.inr (.inr (.inr (.inl q)))), fun _ => h⟩, rfl⟩) (fun h5 => ?_)
    refine ⟨fin (eq_str n _) ⟨fun q => .inr (.inr (.inr (.inr (.inr q)))), fun q => ?_⟩, rfl⟩
    rcases q with q | q | q | q | q | q
    · exact absurd q h1
    · exact absurd q h2
    · exact absurd q h3
    · exact absurd q h4
    · exact absurd q h5
    · exact q
end Go.Proofs.YtaifphjenebgoaaDoor
/- Layer 15 (code): what of a program but its code may be. -/
set_option linter.unusedVariables false
set_option linter.unusedSimpArgs false
namespace Go.Proofs.YtaifphjenebgoaaDoor
open Go Go.Sx R1 K15
def KCur : Kd Cur := ⟨3, fun _ _ a cs => cs = [.string a.name, .bool a.ix, .bool a.wr], fun h => by simp [h], fun h _ => h⟩
def KSrt : Kd Srt := ⟨3, fun Ω w a cs => ∃ A c, cs = [.slice A a.desc.length c, .int .i64 a.cols, .bool a.dist] ∧ a.desc.length ≤ c ∧ Imm Kd.bool Ω w A a.desc, fun ⟨_, _, h, _⟩ => by simp [h], fun ⟨A, c, h, hc, hi⟩ st => ⟨A, c, h, hc, hi.keep (by decide) st⟩⟩
def KTot : Kd Tot := ⟨2, fun _ _ a cs => cs = [.string a.fn, .bool a.dist], fun h => by simp [h], fun h _ => h⟩
def KIns : Kd Ins := ⟨5, fun _ _ a cs => cs = [.int .u8 a.op, .int .i64 a.a, .int .i64 a.b, .int .i64 a.c, .int .i64 a.d], fun h => by simp [h], fun h _ => h⟩
theorem KCur_pos : 0 < KCur.size := by decide
theorem KSrt_pos : 0 < KSrt.size := by decide
theorem KTot_pos : 0 < KTot.size := by decide
theorem KIns_pos : 0 < KIns.size := by decide
theorem KStr_pos : 0 < Kd.str.size := by decide
/-- a function value that tells of a thing whether p, from a world on; 'arg': the thing as an argument -/
def Tests {α : Type} (K : Kd α) (arg : List Value → Value) (w : World) (f : Value) (p : α → Bool) : Prop :=
  ∀ u, Ext w u → ∀ a cs, K.rep NoB u a cs → ∃ (fid : FuncId) (first captured : Array Value), f = .func (.func fid) first captured ∧ bodied Tryd.prog fid = true ∧
    CallsV Tryd.prog fid (first.toList ++ ([arg cs] ++ captured.toList)).toArray u fun r w' => r = .bool (p a) ∧ Ext u w'
def argA (cs : List Value) : Value := .agg cs.toArray
def arg1 (cs : List Value) : Value := cs.headD undef
/-- where the first one is that p holds of -/
def firstI {α : Type} (p : α → Bool) : List α → Nat → Int
  | [], _ => -1
  | x :: l, i => if p x then (i : Int) else firstI p l (i + 1)
theorem firstI_any {α : Type} (p : α → Bool) : ∀ (l : List α) (i : Nat), decide (0 ≤ firstI p l i) = l.any p
  | [], _ => rfl
  | x :: l, i => by
    rw [firstI, List.any_cons]
    cases h : p x
    · rw [if_neg (by decide), firstI_any p l (i + 1)]; simp
    · rw [if_pos rfl]
      simp
theorem firstI_drop {α : Type} (p : α → Bool) (l : List α) (j : Nat) (h : j < l.length) : firstI p (l.drop j) j = if p l[j] then (j : Int) else firstI p (l.drop (j + 1)) (j + 1) := by
  rw [List.drop_eq_getElem_cons h, firstI]
theorem index_string {w : World} {A : Option Addr} {c n : Nat} {l : List ByteArray} {f : Value} {p : ByteArray → Bool} (hn : n = l.length) (hi : Imm Kd.str NoB w A l) (hl : l.length ≤ maxLen) (hf : Tests Kd.str arg1 w f p) :
    CallsV Tryd.prog 73 #[.slice A n c, f] w fun r w' => r = .int .i64 (firstI p l 0) ∧ Ext w w' := by
  subst hn
  simp only [maxLen] at hl
  refine slices_IndexFunc_string_string.calls okay ?_
  unfold slices_IndexFunc_string_string.W
  refine ⟨fun x u => ∃ j : Nat, j ≤ l.length ∧ x = (j : Int) ∧ firstI p l 0 = firstI p (l.drop j) j ∧ Ext w u, fun x _ => (l.length - x).toNat, ⟨0, by omega, rfl, rfl, .refl _ _⟩, ?_⟩
  rintro _ u ⟨j, hj, rfl, hq, e⟩
  refine brd (fun hlt => ?_) (fun hge => ?_)
  · have hjl : j < l.length := by omega
    obtain ⟨ad, hA, cs, hrep, hc⟩ := (hi.ext (by decide) e).get1 hjl
    rw [firstI_drop p l j hjl] at hq
    have hcs : cs = [.string l[j]] := hrep
    subst hcs
    obtain ⟨fid, first, captured, rfl, hb, hcall⟩ := hf u e _ _ hrep
    refine ⟨ad, hA, ⟨by omega, by omega⟩, _, by rw [Int.toNat_natCast]; exact hc 0 _ rfl, fid, first, captured, rfl, hb, ?_⟩
    refine hcall.mono ?_
    rintro _ u1 ⟨rfl, e1⟩
    refine ⟨_, rfl, ?_⟩
    cases hp : p l[j] with
    | true =>
      rw [cond_true]
      rw [hp, if_pos rfl] at hq
      exact ⟨by rw [hq], e.trans' e1⟩
    | false =>
      rw [cond_false]
      rw [hp, if_neg (by decide)] at hq
      rw [wi _ (by omega) (by omega)]
      exact ⟨⟨j + 1, by omega, rfl, hq, e.trans' e1⟩, by dsimp only; omega⟩
  · obtain rfl : j = l.length := by omega
    rw [List.drop_length] at hq
    exact ⟨by rw [hq]; rfl, e⟩
theorem contains_string {w : World} {A : Option Addr} {c n : Nat} {l : List ByteArray} {f : Value} {p : ByteArray → Bool} (hn : n = l.length) (hi : Imm Kd.str NoB w A l) (hl : l.length ≤ maxLen) (hf : Tests Kd.str arg1 w f p) :
    CallsV Tryd.prog 42 #[.slice A n c, f] w fun r w' => r = .bool (l.any p) ∧ Ext w w' := by
  refine slices_ContainsFunc_string_string.calls okay ?_
  unfold slices_ContainsFunc_string_string.W
  refine (index_string hn hi hl hf).mono ?_
  rintro _ u ⟨rfl, e⟩
  exact ⟨_, rfl, by rw [firstI_any], e⟩
theorem index_api_Value {w : World} {A : Option Addr} {c n : Nat} {l : List V} {f : Value} {p : V → Bool} (hn : n = l.length) (hi : Imm KV NoB w A l) (hl : l.length ≤ maxLen) (hf : Tests KV argA w f p) :
    CallsV Tryd.prog 74 #[.slice A n c, f] w fun r w' => r = .int .i64 (firstI p l 0) ∧ Ext w w' := by
  subst hn
  simp only [maxLen] at hl
  refine slices_IndexFunc_api_Value_api_Value.calls okay ?_
  unfold slices_IndexFunc_api_Value_api_Value.W
  refine ⟨fun x u => ∃ j : Nat, j ≤ l.length ∧ x = (j : Int) ∧ firstI p l 0 = firstI p (l.drop j) j ∧ Ext w u, fun x _ => (l.length - x).toNat, ⟨0, by omega, rfl, rfl, .refl _ _⟩, ?_⟩
  rintro _ u ⟨j, hj, rfl, hq, e⟩
  refine brd (fun hlt => ?_) (fun hge => ?_)
  · have hjl : j < l.length := by omega
    obtain ⟨ad, hA, cs, hrep, hc⟩ := (hi.ext (by decide) e).get1 hjl
    rw [firstI_drop p l j hjl] at hq
    have hcs : cs = vc l[j] := hrep
    subst hcs
    obtain ⟨fid, first, captured, rfl, hb, hcall⟩ := hf u e _ _ hrep
    refine ⟨ad, hA, ⟨by omega, by omega⟩, _, by rw [Int.toNat_natCast, add_add]; exact hc 0 _ rfl, _, by rw [Int.toNat_natCast, add_add]; exact hc 1 _ rfl, _, by rw [Int.toNat_natCast, add_add]; exact hc 2 _ rfl, fid, first, captured, rfl, hb, ?_⟩
    refine hcall.mono ?_
    rintro _ u1 ⟨rfl, e1⟩
    refine ⟨_, rfl, ?_⟩
    cases hp : p l[j] with
    | true =>
      rw [cond_true]
      rw [hp, if_pos rfl] at hq
      exact ⟨by rw [hq], e.trans' e1⟩
    | false =>
      rw [cond_false]
      rw [hp, if_neg (by decide)] at hq
      rw [wi _ (by omega) (by omega)]
      exact ⟨⟨j + 1, by omega, rfl, hq, e.trans' e1⟩, by dsimp only; omega⟩
  · obtain rfl : j = l.length := by omega
    rw [List.drop_length] at hq
    exact ⟨by rw [hq]; rfl, e⟩
theorem contains_api_Value {w : World} {A : Option Addr} {c n : Nat} {l : List V} {f : Value} {p : V → Bool} (hn : n = l.length) (hi : Imm KV NoB w A l) (hl : l.length ≤ maxLen) (hf : Tests KV argA w f p) :
    CallsV Tryd.prog 43 #[.slice A n c, f] w fun r w' => r = .bool (l.any p) ∧ Ext w w' := by
  refine slices_ContainsFunc_api_Value_api_Value.calls okay ?_
  unfold slices_ContainsFunc_api_Value_api_Value.W
  refine (index_api_Value hn hi hl hf).mono ?_
  rintro _ u ⟨rfl, e⟩
  exact ⟨_, rfl, by rw [firstI_any], e⟩
theorem index_api_Cur {w : World} {A : Option Addr} {c n : Nat} {l : List Cur} {f : Value} {p : Cur → Bool} (hn : n = l.length) (hi : Imm KCur NoB w A l) (hl : l.length ≤ maxLen) (hf : Tests KCur argA w f p) :
    CallsV Tryd.prog 75 #[.slice A n c, f] w fun r w' => r = .int .i64 (firstI p l 0) ∧ Ext w w' := by
  subst hn
  simp only [maxLen] at hl
  refine slices_IndexFunc_api_Cur_api_Cur.calls okay ?_
  unfold slices_IndexFunc_api_Cur_api_Cur.W
  refine ⟨fun x u => ∃ j : Nat, j ≤ l.length ∧ x = (j : Int) ∧ firstI p l 0 = firstI p (l.drop j) j ∧ Ext w u, fun x _ => (l.length - x).toNat, ⟨0, by omega, rfl, rfl, .refl _ _⟩, ?_⟩
  rintro _ u ⟨j, hj, rfl, hq, e⟩
  refine brd (fun hlt => ?_) (fun hge => ?_)
  · have hjl : j < l.length := by omega
    obtain ⟨ad, hA, cs, hrep, hc⟩ := (hi.ext (by decide) e).get1 hjl
    rw [firstI_drop p l j hjl] at hq
    have hcs : cs = [.string l[j].name, .bool l[j].ix, .bool l[j].wr] := hrep
    subst hcs
    obtain ⟨fid, first, captured, rfl, hb, hcall⟩ := hf u e _ _ hrep
    refine ⟨ad, hA, ⟨by omega, by omega⟩, _, by rw [Int.toNat_natCast, add_add]; exact hc 0 _ rfl, _, by rw [Int.toNat_natCast, add_add]; exact hc 1 _ rfl, _, by rw [Int.toNat_natCast, add_add]; exact hc 2 _ rfl, fid, first, captured, rfl, hb, ?_⟩
    refine hcall.mono ?_
    rintro _ u1 ⟨rfl, e1⟩
    refine ⟨_, rfl, ?_⟩
    cases hp : p l[j] with
    | true =>
      rw [cond_true]
      rw [hp, if_pos rfl] at hq
      exact ⟨by rw [hq], e.trans' e1⟩
    | false =>
      rw [cond_false]
      rw [hp, if_neg (by decide)] at hq
      rw [wi _ (by omega) (by omega)]
      exact ⟨⟨j + 1, by omega, rfl, hq, e.trans' e1⟩, by dsimp only; omega⟩
  · obtain rfl : j = l.length := by omega
    rw [List.drop_length] at hq
    exact ⟨by rw [hq]; rfl, e⟩
theorem contains_api_Cur {w : World} {A : Option Addr} {c n : Nat} {l : List Cur} {f : Value} {p : Cur → Bool} (hn : n = l.length) (hi : Imm KCur NoB w A l) (hl : l.length ≤ maxLen) (hf : Tests KCur argA w f p) :
    CallsV Tryd.prog 44 #[.slice A n c, f] w fun r w' => r = .bool (l.any p) ∧ Ext w w' := by
  refine slices_ContainsFunc_api_Cur_api_Cur.calls okay ?_
  unfold slices_ContainsFunc_api_Cur_api_Cur.W
  refine (index_api_Cur hn hi hl hf).mono ?_
  rintro _ u ⟨rfl, e⟩
  exact ⟨_, rfl, by rw [firstI_any], e⟩
theorem index_api_Sort {w : World} {A : Option Addr} {c n : Nat} {l : List Srt} {f : Value} {p : Srt → Bool} (hn : n = l.length) (hi : Imm KSrt NoB w A l) (hl : l.length ≤ maxLen) (hf : Tests KSrt argA w f p) :
    CallsV Tryd.prog 76 #[.slice A n c, f] w fun r w' => r = .int .i64 (firstI p l 0) ∧ Ext w w' := by
  subst hn
  simp only [maxLen] at hl
  refine slices_IndexFunc_api_Sort_api_Sort.calls okay ?_
  unfold slices_IndexFunc_api_Sort_api_Sort.W
  refine ⟨fun x u => ∃ j : Nat, j ≤ l.length ∧ x = (j : Int) ∧ firstI p l 0 = firstI p (l.drop j) j ∧ Ext w u, fun x _ => (l.length - x).toNat, ⟨0, by omega, rfl, rfl, .refl _ _⟩, ?_⟩
  rintro _ u ⟨j, hj, rfl, hq, e⟩
  refine brd (fun hlt => ?_) (fun hge => ?_)
  · have hjl : j < l.length := by omega
    obtain ⟨ad, hA, cs, hrep, hc⟩ := (hi.ext (by decide) e).get1 hjl
    rw [firstI_drop p l j hjl] at hq
    obtain ⟨D, dc, hcs, _⟩ := id hrep
    subst hcs
    obtain ⟨fid, first, captured, rfl, hb, hcall⟩ := hf u e _ _ hrep
    refine ⟨ad, hA, ⟨by omega, by omega⟩, _, _, _, by rw [Int.toNat_natCast, add_add]; exact hc 0 _ rfl, _, by rw [Int.toNat_natCast, add_add]; exact hc 1 _ rfl, _, by rw [Int.toNat_natCast, add_add]; exact hc 2 _ rfl, fid, first, captured, rfl, hb, ?_⟩
    refine hcall.mono ?_
    rintro _ u1 ⟨rfl, e1⟩
    refine ⟨_, rfl, ?_⟩
    cases hp : p l[j] with
    | true =>
      rw [cond_true]
      rw [hp, if_pos rfl] at hq
      exact ⟨by rw [hq], e.trans' e1⟩
    | false =>
      rw [cond_false]
      rw [hp, if_neg (by decide)] at hq
      rw [wi _ (by omega) (by omega)]
      exact ⟨⟨j + 1, by omega, rfl, hq, e.trans' e1⟩, by dsimp only; omega⟩
  · obtain rfl : j = l.length := by omega
    rw [List.drop_length] at hq
    exact ⟨by rw [hq]; rfl, e⟩
theorem contains_api_Sort {w : World} {A : Option Addr} {c n : Nat} {l : List Srt} {f : Value} {p : Srt → Bool} (hn : n = l.length) (hi : Imm KSrt NoB w A l) (hl : l.length ≤ maxLen) (hf : Tests KSrt argA w f p) :
    CallsV Tryd.prog 45 #[.slice A n c, f] w fun r w' => r = .bool (l.any p) ∧ Ext w w' := by
  refine slices_ContainsFunc_api_Sort_api_Sort.calls okay ?_
  unfold slices_ContainsFunc_api_Sort_api_Sort.W
  refine (index_api_Sort hn hi hl hf).mono ?_
  rintro _ u ⟨rfl, e⟩
  exact ⟨_, rfl, by rw [firstI_any], e⟩
theorem index_api_Acc {w : World} {A : Option Addr} {c n : Nat} {l : List Tot} {f : Value} {p : Tot → Bool} (hn : n = l.length) (hi : Imm KTot NoB w A l) (hl : l.length ≤ maxLen) (hf : Tests KTot argA w f p) :
    CallsV Tryd.prog 77 #[.slice A n c, f] w fun r w' => r = .int .i64 (firstI p l 0) ∧ Ext w w' := by
  subst hn
  simp only [maxLen] at hl
  refine slices_IndexFunc_api_Acc_api_Acc.calls okay ?_
  unfold slices_IndexFunc_api_Acc_api_Acc.W
  refine ⟨fun x u => ∃ j : Nat, j ≤ l.length ∧ x = (j : Int) ∧ firstI p l 0 = firstI p (l.drop j) j ∧ Ext w u, fun x _ => (l.length - x).toNat, ⟨0, by omega, rfl, rfl, .refl _ _⟩, ?_⟩
  rintro _ u ⟨j, hj, rfl, hq, e⟩
  refine brd (fun hlt => ?_) (fun hge => ?_)
  · have hjl : j < l.length := by omega
    obtain ⟨ad, hA, cs, hrep, hc⟩ := (hi.ext (by decide) e).get1 hjl
    rw [firstI_drop p l j hjl] at hq
    have hcs : cs = [.string l[j].fn, .bool l[j].dist] := hrep
    subst hcs
    obtain ⟨fid, first, captured, rfl, hb, hcall⟩ := hf u e _ _ hrep
    refine ⟨ad, hA, ⟨by omega, by omega⟩, _, by rw [Int.toNat_natCast, add_add]; exact hc 0 _ rfl, _, by rw [Int.toNat_natCast, add_add]; exact hc 1 _ rfl, fid, first, captured, rfl, hb, ?_⟩
    refine hcall.mono ?_
    rintro _ u1 ⟨rfl, e1⟩
    refine ⟨_, rfl, ?_⟩
    cases hp : p l[j] with
    | true =>
      rw [cond_true]
      rw [hp, if_pos rfl] at hq
      exact ⟨by rw [hq], e.trans' e1⟩
    | false =>
      rw [cond_false]
      rw [hp, if_neg (by decide)] at hq
      rw [wi _ (by omega) (by omega)]
      exact ⟨⟨j + 1, by omega, rfl, hq, e.trans' e1⟩, by dsimp only; omega⟩
  · obtain rfl : j = l.length := by omega
    rw [List.drop_length] at hq
    exact ⟨by rw [hq]; rfl, e⟩
theorem contains_api_Acc {w : World} {A : Option Addr} {c n : Nat} {l : List Tot} {f : Value} {p : Tot → Bool} (hn : n = l.length) (hi : Imm KTot NoB w A l) (hl : l.length ≤ maxLen) (hf : Tests KTot argA w f p) :
    CallsV Tryd.prog 46 #[.slice A n c, f] w fun r w' => r = .bool (l.any p) ∧ Ext w w' := by
  refine slices_ContainsFunc_api_Acc_api_Acc.calls okay ?_
  unfold slices_ContainsFunc_api_Acc_api_Acc.W
  refine (index_api_Acc hn hi hl hf).mono ?_
  rintro _ u ⟨rfl, e⟩
  exact ⟨_, rfl, by rw [firstI_any], e⟩
end Go.Proofs.YtaifphjenebgoaaDoor
/- Layer 15 (code): what of a program but its code may be: the calls. -/
set_option linter.unusedVariables false
set_option linter.unusedSimpArgs false
namespace Go.Proofs.YtaifphjenebgoaaDoor
open Go Go.Sx R1 K15
theorem eq_empty0 (x : ByteArray) : (ByteArray.toList x == ByteArray.toList (ByteArray.mk #[])) = decide (x.size = 0) := by
  obtain ⟨⟨l⟩⟩ := x
  refine (eq_str l []).trans ?_
  cases l <;> simp [ByteArray.size]
theorem cbool {b : Bool} {A B : Prop} (h1 : b = true → A) (h2 : b = false → B) : cond b A B := by
  cases b with
  | true => exact h1 rfl
  | false => exact h2 rfl
theorem right1_spec (w : World) (v : V) : CallsV Tryd.prog 37 #[.agg #[.int .u8 v.k, .int .i64 v.n, .string v.s]] w fun r w' => r = .bool (right v) ∧ Ext w w' := by
  refine value_Right.calls okay ?_
  unfold value_Right.W right
  intro g w1 f
  have b := f.blk
  have e := f.ext
  refine ⟨_, b.cell rfl, ?_⟩
  refine brd (fun h0 => ?_) (fun h0 => ?_)
  · rw [if_pos h0]
    refine ⟨_, b.cell rfl, brd (fun hn => ⟨_, b.cell rfl, ?_, e⟩) (fun hn => ⟨?_, e⟩)⟩
    · rw [eq_empty0]; simp [hn]
    · simp [hn]
  · rw [if_neg h0]
    refine brd (fun h1 => ?_) (fun h1 => ?_)
    · rw [if_pos h1]
      exact ⟨_, b.cell rfl, by rw [eq_empty0], e⟩
    · rw [if_neg h1]
      have two : ∀ (p : Prop) [Decidable p], p → (v.k = 2 ∨ v.k = 3) → (∃ x, w1.cell? (Addr.add ⟨g, 0, none⟩ 1) = some (.int .i64 x) ∧ cond (decide (x = 0)) (∃ x, w1.cell? (Addr.add ⟨g, 0, none⟩ 2) = some (.string x) ∧ (Value.bool (decide ((x.size : Int) ≤ 65536)) = .bool (decide (v.n = 0 ∧ v.s.size ≤ 65536)) ∧ Ext w w1)) (Value.bool false = .bool (decide (v.n = 0 ∧ v.s.size ≤ 65536)) ∧ Ext w w1)) := fun p _ _ _ => by
        refine ⟨_, b.cell rfl, brd (fun hn => ⟨_, b.cell rfl, ?_, e⟩) (fun hn => ⟨?_, e⟩)⟩
        · congr 1
          exact decide_eq_decide.2 ⟨fun h => ⟨hn, by omega⟩, fun h => by have := h.2; omega⟩
        · simp [hn]
      refine brd (fun h2 => ?_) (fun h2 => ?_)
      · rw [if_pos (.inl h2)]
        exact brd (fun _ => two _ h2 (.inl h2)) (fun h => absurd h2 h)
      · refine brd (fun h3 => ?_) (fun h3 => ⟨?_, e⟩)
        · rw [if_pos (.inr h3)]; exact two _ h3 (.inr h3)
        · rw [if_neg (fun h => h.elim h2 h3)]
theorem aggKnown_spec (w : World) (n : List UInt8) : CallsV Tryd.prog 71 #[.string (bs n)] w fun r w' => r = .bool (knownT n) ∧ w' = w := by
  refine agg_Known.calls okay ?_
  unfold agg_Known.W knownT
  have t : ∀ {p : Prop} [Decidable p], p → (Value.bool true = .bool (decide p) ∧ w = w) := fun h => ⟨by rw [decide_eq_true h], rfl⟩
  refine brS (fun h => brS (fun _ => t (.inl h)) (fun q => absurd h q)) (fun h1 => ?_)
  refine brS (fun h => brS (fun _ => t (.inr (.inl h))) (fun q => absurd h q)) (fun h2 => ?_)
  refine brS (fun h => brS (fun _ => t (.inr (.inr (.inl h)))) (fun q => absurd h q)) (fun h3 => ?_)
  refine brS (fun h => brS (fun _ => t (.inr (.inr (.inr (.inl h))))) (fun q => absurd h q)) (fun h4 => ?_)
  refine brS (fun h => brS (fun _ => t (.inr (.inr (.inr (.inr (.inl h)))))) (fun q => absurd h q)) (fun h5 => ?_)
  refine brS (fun h => brS (fun _ => t (.inr (.inr (.inr (.inr (.inr (.inl h))))))) (fun q => absurd h q)) (fun h6 => ?_)
  refine brS (fun h => t (.inr (.inr (.inr (.inr (.inr (.inr h))))))) (fun h7 => ⟨?_, rfl⟩)
  rw [decide_eq_false]
  rintro (h | h | h | h | h | h | h)
  · exact h1 h
  · exact h2 h
  · exact h3 h
  · exact h4 h
  · exact h5 h
  · exact h6 h
  · exact h7 h
theorem Reset_spec {w : World} {g : Nat} {n : ByteArray} {d : Bool} (hn : n.size ≠ 0) (b : Blk w g [.string n, .bool d, .int .i64 0, .int .u64 0, .int .u64 0, .int .u8 0, .int .i64 0, .string (ByteArray.mk #[]), .slice none 0 0, .map none]) :
    CallsV Tryd.prog 72 #[.pointer (some ⟨g, 0, none⟩)] w fun r w' => r = .tuple #[] ∧ Fr (fun k => k = g) w w' := by
  refine agg_Acc_Reset.calls okay ?_
  unfold agg_Acc_Reset.W
  refine cbool (fun h => by cases h) (fun _ => ?_)
  refine ⟨_, rfl, _, b.cell rfl, ?_⟩
  rw [eq_empty0]
  refine brd (fun h => absurd h hn) (fun _ => ?_)
  have bd := b.ext (Fr.drew NoB w)
  refine ⟨_, rfl, fun z => Ext w.drew z, .refl _ _, _, fun z hz => (bd.ext hz).cell rfl, _, rfl, _, fun z hz => (bd.ext hz).cell rfl, ?_⟩
  have e1 : Ext w.drew (w.drew.alloc (.map #[] 0)) := Fr.alloc NoB _ _
  refine ⟨_, _, makeMap_run _ _, e1, _, rfl, (bd.ext e1).stOK [_, _, _, _, _, _, _, _, _, _] 0 (by simp), ?_⟩
  rintro w2 rfl
  exact ⟨rfl, ((Fr.drew NoB w).ext e1).trans (Fr.setAll _ _ _) (fun _ _ h => h.elim) (fun _ _ h => h)⟩
theorem aggNew_spec (w : World) (n : List UInt8) (d : Bool) : CallsV Tryd.prog 41 #[.string (bs n), .bool d] w fun r w' => ∃ A, r = .tuple #[.pointer A, .int .i64 (newT n d)] ∧ Ext w w' := by
  refine agg_New.calls okay ?_
  unfold agg_New.W newT
  refine (aggKnown_spec w n).mono ?_
  rintro _ u ⟨rfl, hu⟩
  obtain rfl : w = u := hu.symm
  refine ⟨_, rfl, brnb (fun h => ⟨none, by rw [h]; rfl, .refl _ _⟩) (fun hk => ?_)⟩
  rw [if_pos hk]
  have hne : (bs n).size ≠ 0 := by
    intro h
    have : n = [] := List.eq_nil_of_length_eq_zero h
    subst this
    simp [knownT] at hk
  have mk : (if d && decide (n = [99, 111, 117, 110, 116, 42]) then (2 : Int) else 0) = 0 → ∀ g w1, Fresh w g w1 [.string (bs n), .bool d, .int .i64 0, .int .u64 0, .int .u64 0, .int .u8 0, .int .i64 0, .string (ByteArray.mk #[]), .slice none 0 0, .map none] 117 →
      CallsV Tryd.prog 72 #[.pointer (some ⟨g, 0, none⟩)] w1 fun v w' => v = .tuple #[] ∧ (∃ A, Value.tuple #[.pointer (some ⟨g, 0, none⟩), .int .i64 0] = .tuple #[.pointer A, .int .i64 (if d && decide (n = [99, 111, 117, 110, 116, 42]) then (2 : Int) else 0)] ∧ Ext w w') := by
    intro h0 g w1 f
    refine (Reset_spec hne f.blk).mono ?_
    rintro _ w2 ⟨rfl, hf⟩
    exact ⟨rfl, _, by rw [h0], f.ext.trans hf (fun _ _ h => h) (fun k hk e => by have := f.ge; omega)⟩
  refine cbool (fun hd => ?_) (fun hd => ?_)
  · refine brS (fun h => ⟨none, by rw [if_pos (by simp [hd, h])], .refl _ _⟩) (fun h => ?_)
    exact mk (if_neg (by simp [h]))
  · exact mk (if_neg (by simp [hd]))
theorem tests1 (w : World) : Tests Kd.str arg1 w (.func (.func 35) #[] #[]) longN := by
  intro u e a cs hr
  have hr : cs = [.string a] := hr
  subst hr
  refine ⟨_, _, _, rfl, by kernel_rfl, ?_⟩
  refine code_parts_2.calls okay ?_
  unfold code_parts_2.W
  exact ⟨by congr 1; exact decide_eq_decide.2 (by omega), .refl _ _⟩
theorem tests2 (w : World) : Tests KV argA w (.func (.func 36) #[] #[]) wrongV := by
  intro u e a cs hr
  have hr : cs = vc a := hr
  subst hr
  refine ⟨_, _, _, rfl, by kernel_rfl, ?_⟩
  refine code_parts_3.calls okay ?_
  unfold code_parts_3.W
  intro g w1 f
  refine ⟨_, f.blk.cell rfl, _, f.blk.cell rfl, _, f.blk.cell rfl, ?_⟩
  refine (right1_spec w1 a).mono ?_
  rintro _ w2 ⟨rfl, e2⟩
  exact ⟨_, rfl, rfl, f.ext.trans' e2⟩
theorem tests3 (w : World) : Tests KCur argA w (.func (.func 38) #[] #[]) badCur := by
  intro u e a cs hr
  have hr : cs = [.string a.name, .bool a.ix, .bool a.wr] := hr
  subst hr
  refine ⟨_, _, _, rfl, by kernel_rfl, ?_⟩
  refine code_parts_4.calls okay ?_
  unfold code_parts_4.W badCur
  intro g w1 f
  have b := f.blk
  refine ⟨_, b.cell rfl, ?_⟩
  rw [eq_empty0]
  refine brd (fun h => ⟨by rw [decide_eq_true h]; rfl, f.ext⟩) (fun h => ⟨_, b.cell rfl, ?_⟩)
  rw [decide_eq_false h, Bool.false_or]
  refine brd (fun h2 => ⟨by rw [decide_eq_true (by omega : 200 < a.name.size)]; rfl, f.ext⟩) (fun h2 => ⟨_, b.cell rfl, ?_⟩)
  rw [decide_eq_false (by omega : ¬ 200 < a.name.size), Bool.false_or]
  refine cbool (fun h3 => ⟨_, b.cell rfl, by rw [h3, Bool.true_and], f.ext⟩) (fun h3 => ⟨by rw [h3, Bool.false_and], f.ext⟩)
theorem tests5 (w : World) : Tests KTot argA w (.func (.func 40) #[] #[]) badTot := by
  intro u e a cs hr
  have hr : cs = [.string a.fn, .bool a.dist] := hr
  subst hr
  refine ⟨_, _, _, rfl, by kernel_rfl, ?_⟩
  refine code_parts_6.calls okay ?_
  unfold code_parts_6.W
  intro g w1 f
  refine ⟨_, f.blk.cell rfl, _, f.blk.cell rfl, ?_⟩
  refine (aggNew_spec w1 (sb a.fn) a.dist).mono ?_
  rintro _ w2 ⟨A, rfl, e2⟩
  exact ⟨_, _, rfl, rfl, f.ext.trans' e2⟩
theorem within_spec (w : World) (n low high : Int) : CallsV Tryd.prog 34 #[.int .i64 n, .int .i64 low, .int .i64 high] w fun r w' => r = .bool (within n low high) ∧ w' = w := by
  refine code_parts_1.calls okay ?_
  unfold code_parts_1.W within
  exact brd (fun h => ⟨by rw [decide_eq_true h, Bool.true_and], rfl⟩) (fun h => ⟨by rw [decide_eq_false h, Bool.false_and], rfl⟩)
theorem tests4 {w : World} {g1 : Nat} (hb : Blk w g1 [.func (.func 34) #[] #[]]) : Tests KSrt argA w (.func (.func 39) #[] #[.pointer (some ⟨g1, 0, none⟩)]) badSrt := by
  intro u e a cs hr
  obtain ⟨D, dc, rfl, hdc, hD⟩ := hr
  refine ⟨_, _, _, rfl, by kernel_rfl, ?_⟩
  refine code_parts_5.calls okay ?_
  unfold code_parts_5.W badSrt
  intro g w1 f
  have b := f.blk
  have e1 := e.trans' f.ext
  refine ⟨_, _, _, b.cell rfl, ?_⟩
  refine brd (fun h => ⟨by rw [decide_eq_true (by omega : 30 < a.desc.length)]; rfl, f.ext⟩) (fun h => ?_)
  rw [decide_eq_false (by omega : ¬ 30 < a.desc.length), Bool.false_or]
  refine ⟨_, (hb.ext e1).cell0 rfl, _, b.cell rfl, _, _, _, rfl, by kernel_rfl, ?_⟩
  refine (within_spec w1 a.cols 1 60).mono ?_
  rintro _ u1 ⟨rfl, hu⟩
  obtain rfl : w1 = u1 := hu.symm
  exact ⟨_, rfl, rfl, f.ext⟩
end Go.Proofs.YtaifphjenebgoaaDoor
/- Layer 15: what it wants of layers 1 and 3: a string of bytes written; a row written. (Joined by genw.py out of the texts of those layers.) -/
set_option linter.unusedVariables false
set_option linter.unusedSimpArgs false
namespace Go.Proofs.YtaifphjenebgoaaDoor
open Go Go.Sx R1 K15
theorem bt : BT Tryd.prog 45 5 9 := ⟨by kernel_rfl, by kernel_rfl, by kernel_rfl⟩
theorem itemV {Ω : Nat → Prop} {w : World} {A : Option Addr} {l : List V} (h : Imm KV Ω w A l) {x : Int} (h0 : 0 ≤ x) (h1 : x < (l.length : Nat)) :
    ∃ ad, A = some ad ∧ ¬ Ω ad.block ∧ ∀ u, w.cell? = u.cell? ∨ Ext w u ∨ (∃ S, Fr S w u ∧ ∀ k, S k → Ω k) → u.cell? ((ad.add (x.toNat * 3)).add 0) = some (.int .u8 (l.getD x.toNat V0).k) ∧ u.cell? ((ad.add (x.toNat * 3)).add (0 + 1)) = some (.int .i64 (l.getD x.toNat V0).n) ∧ u.cell? ((ad.add (x.toNat * 3)).add (0 + 1 + 1)) = some (.string (l.getD x.toNat V0).s) := by
  have hlt : x.toNat < l.length := by omega
  have hg : l[x.toNat]? = some (l.getD x.toNat V0) := by simp [List.getD, hlt]
  obtain ⟨ad, hA, hn, cs, hr, hcell⟩ := h x.toNat _ hg
  have hr : cs = vc (l.getD x.toNat V0) := hr
  subst hr
  refine ⟨ad, hA, hn, fun u hu => ?_⟩
  have hc : ∀ j v, (vc (l.getD x.toNat V0))[j]? = some v → u.cell? ((ad.add (x.toNat * 3)).add j) = some v := by
    intro j v hj
    have h2 := hcell j v hj
    rw [add_add]
    rcases hu with hu | hu | ⟨S, hu, hS⟩
    · rw [← hu]; exact h2
    · exact hu.cell (fun h => h) h2
    · exact hu.cell (by rw [add_block]; exact fun h => hn (hS _ h)) h2
  exact ⟨hc 0 _ rfl, hc 1 _ rfl, hc 2 _ rfl⟩
theorem itemV0 {Ω : Nat → Prop} {w : World} {A : Option Addr} {l : List V} (h : Imm KV Ω w A l) {x : Int} (h0 : 0 ≤ x) (h1 : x < (l.length : Nat)) :
    ∃ ad, A = some ad ∧ w.cell? ((ad.add (x.toNat * 3)).add 0) = some (.int .u8 (l.getD x.toNat V0).k) ∧ w.cell? ((ad.add (x.toNat * 3)).add (0 + 1)) = some (.int .i64 (l.getD x.toNat V0).n) ∧ w.cell? ((ad.add (x.toNat * 3)).add (0 + 1 + 1)) = some (.string (l.getD x.toNat V0).s) := by
  obtain ⟨ad, hA, _, hc⟩ := itemV h h0 h1
  exact ⟨ad, hA, hc w (.inl rfl)⟩
theorem varV (w : World) (zs : Array Value) (hz : zs.size = 3) (e : TypeId) (a b c : Value) : ((((w.alloc (.cells zs e)).cell? ((⟨w.heap.size, 0, none⟩ : Addr).add 0)).isSome = true ∧ (w.alloc (.cells zs e)).frozen? ((⟨w.heap.size, 0, none⟩ : Addr).add 0) = false) ∧
    ((((w.alloc (.cells zs e)).setCell ((⟨w.heap.size, 0, none⟩ : Addr).add 0) a).cell? ((⟨w.heap.size, 0, none⟩ : Addr).add (0 + 1))).isSome = true ∧ ((w.alloc (.cells zs e)).setCell ((⟨w.heap.size, 0, none⟩ : Addr).add 0) a).frozen? ((⟨w.heap.size, 0, none⟩ : Addr).add (0 + 1)) = false) ∧
    (((((w.alloc (.cells zs e)).setCell ((⟨w.heap.size, 0, none⟩ : Addr).add 0) a).setCell ((⟨w.heap.size, 0, none⟩ : Addr).add (0 + 1)) b).cell? ((⟨w.heap.size, 0, none⟩ : Addr).add (0 + 1 + 1))).isSome = true ∧ (((w.alloc (.cells zs e)).setCell ((⟨w.heap.size, 0, none⟩ : Addr).add 0) a).setCell ((⟨w.heap.size, 0, none⟩ : Addr).add (0 + 1)) b).frozen? ((⟨w.heap.size, 0, none⟩ : Addr).add (0 + 1 + 1)) = false)) ∧
    Blk ((((w.alloc (.cells zs e)).setCell ((⟨w.heap.size, 0, none⟩ : Addr).add 0) a).setCell ((⟨w.heap.size, 0, none⟩ : Addr).add (0 + 1)) b).setCell ((⟨w.heap.size, 0, none⟩ : Addr).add (0 + 1 + 1)) c) w.heap.size [a, b, c] ∧
    Ext w ((((w.alloc (.cells zs e)).setCell ((⟨w.heap.size, 0, none⟩ : Addr).add 0) a).setCell ((⟨w.heap.size, 0, none⟩ : Addr).add (0 + 1)) b).setCell ((⟨w.heap.size, 0, none⟩ : Addr).add (0 + 1 + 1)) c) := by
  obtain ⟨x, y, z, rfl⟩ : ∃ x y z, zs = #[x, y, z] := by
    obtain ⟨l⟩ := zs
    match l, hz with
    | [x, y, z], _ => exact ⟨x, y, z, rfl⟩
  have b0 : Blk (w.alloc (.cells #[x, y, z] e)) w.heap.size [x, y, z] := Blk.alloc _ _ _
  have e0 : Ext w (w.alloc (.cells #[x, y, z] e)) := Fr.alloc NoB w _
  generalize w.alloc (.cells #[x, y, z] e) = w0 at *
  have b1 := b0.set 0 0 a
  have e1 := e0.setNewAdd (o := 0) (i := 0) (Nat.le_refl _) a
  generalize w0.setCell ((⟨w.heap.size, 0, none⟩ : Addr).add 0) a = w1 at *
  have b2 := b1.set 0 (0 + 1) b
  have e2 := e1.setNewAdd (o := 0) (i := 0 + 1) (Nat.le_refl _) b
  generalize w1.setCell ((⟨w.heap.size, 0, none⟩ : Addr).add (0 + 1)) b = w2 at *
  have b3 := b2.set 0 (0 + 1 + 1) c
  have e3 := e2.setNewAdd (o := 0) (i := 0 + 1 + 1) (Nat.le_refl _) c
  exact ⟨⟨⟨by rw [b0.cell (v := x) rfl]; rfl, b0.unfrozen _ _⟩, ⟨by rw [b1.cell (v := y) rfl]; rfl, b1.unfrozen _ _⟩, ⟨by rw [b2.cell (v := z) rfl]; rfl, b2.unfrozen _ _⟩⟩, b3, e3⟩
theorem appendBs {w : World} {A : Option Addr} {c : Nat} {l b : List UInt8} (h : OwnB w A c l) {x : Value} (hx : Src Tryd.prog w 1 x b.length (b.map u8)) (hb : l.length + b.length ≤ 140737488355328) (ty : TypeId) {t2 : TypeId} (ht2 : ∃ d, und Tryd.prog t2 = some d ∧ ∀ k, d ≠ .int k) :
    ∃ A' c' w', RunsTo Tryd.prog (Builtin.append_ #[45, t2] ty #[.slice A l.length c, x]) w (.slice A' (l ++ b).length c') w' ∧ OwnB w' A' c' (l ++ b) ∧ Grew A A' w w' := by
  obtain ⟨A', c', w', hr, ho, hf, hs, _⟩ := append_own (ty := ty) (t2 := t2) slB ht2 h hx (by simp [maxLen]; omega) (by omega)
  exact ⟨A', c', w', by rw [List.length_append]; exact hr, by unfold OwnB; rw [List.length_append, List.map_append]; exact ho, ⟨hf, hs⟩⟩
theorem isB : ∃ d, und Tryd.prog 45 = some d ∧ ∀ k, d ≠ .int k := ⟨_, slB.ht, fun _ h => by cases h⟩
theorem isS : ∃ d, und Tryd.prog 9 = some d ∧ ∀ k, d ≠ .int k := ⟨_, bt.hs, fun _ h => by cases h⟩
def encB (b : List UInt8) : List UInt8 := B1.enc b.length ++ b
theorem Blob_spec {w : World} {A B : Option Addr} {c cb : Nat} {l b : List UInt8} (h : OwnB w A c l) (hB : Imm KB (ownB A) w B b) (hb : l.length + b.length + 10 ≤ 140737488355328) :
    CallsV Tryd.prog 31 #[.slice A l.length c, .slice B b.length cb] w fun v w' => ∃ A' c', v = .slice A' (l ++ encB b).length c' ∧ OwnB w' A' c' (l ++ encB b) ∧ Grew A A' w w' := by
  refine bytes_Blob.calls okay ?_
  unfold bytes_Blob.W
  rw [wu _ (by omega) (by omega)]
  refine (Uint_spec h b.length (by omega) (by omega)).mono ?_
  rintro v w1 ⟨A1, c1, rfl, ho, hg, _⟩
  refine ⟨_, _, _, rfl, ?_⟩
  have he := B1.enc_le_ten (m := b.length) (by omega)
  obtain ⟨A2, c2, w2, hr, ho2, hg2⟩ := appendBs ho (Src.bytes (P := Tryd.prog) (c := cb) (hB.grew KB_pos hg)) (by rw [List.length_append]; omega) 45 isB
  refine ⟨_, _, _, _, hr, A2, c2, ?_, ?_, hg.trans hg2⟩
  · simp [encB]
  · unfold encB; rw [← List.append_assoc]; exact ho2
theorem high_spec {w : World} {A : Option Addr} {c : Nat} {l : List UInt8} (h : OwnB w A c l) (m k : Nat) (hm : m < 18446744073709551616) (hk : k ≤ 8) (hb : l.length + 8 ≤ 140737488355328) :
    CallsV Tryd.prog 68 #[.slice A l.length c, .int .u64 (m : Int), .int .i64 (k : Int)] w fun v w' => ∃ A' c', v = .slice A' (l ++ hi m k).length c' ∧ OwnB w' A' c' (l ++ hi m k) ∧ Grew A A' w w' := by
  refine record_high.calls okay ?_
  unfold record_high.W
  have hsplit : ∀ j, j ≤ k → ∃ r, hi m k = r ++ hi m j ∧ r.length = k - j := by
    intro j hj
    induction k with
    | zero => obtain rfl : j = 0 := by omega
              exact ⟨[], rfl, rfl⟩
    | succ k ih =>
      rcases Nat.lt_or_ge k j with h | h
      · obtain rfl : j = k + 1 := by omega
        exact ⟨[], rfl, by simp⟩
      · obtain ⟨r, hr, hl⟩ := ih (by omega) h
        exact ⟨(m / 256 ^ k % 256).toUInt8 :: r, by rw [hi, hr]; rfl, by simp [hl]; omega⟩
  refine ⟨fun A1 n1 c1 x w1 => ∃ (j : Nat) (r : List UInt8), j ≤ k ∧ x = (j : Int) - 1 ∧ hi m k = r ++ hi m j ∧ r.length = k - j ∧ n1 = (l ++ r).length ∧ OwnB w1 A1 c1 (l ++ r) ∧ Grew A A1 w w1, fun _ _ _ x _ => (x + 1).toNat,
    ⟨k, [], by omega, by rw [wi _ (by omega) (by omega)], by simp, by simp, by simp, by simpa using h, .refl _ _⟩, ?_⟩
  rintro A1 _ c1 _ w1 ⟨j, r, hj, rfl, hr, hrl, rfl, ho, hg⟩
  have hlen : (l ++ r).length = l.length + (k - j) := by simp [hrl]
  refine brd (fun h0 => ?_) (fun h0 => ?_)
  · obtain ⟨i, rfl⟩ : ∃ i, j = i + 1 := ⟨j - 1, by omega⟩
    have e1 : IntKind.i64.wrap (8 * (((i + 1 : Nat) : Int) - 1)) = ((8 * i : Nat) : Int) := by rw [wi _ (by omega) (by omega)]; omega
    rw [e1, Int.toNat_natCast, show min (8 * i) 64 = 8 * i by omega, show ((2 : Int) ^ (8 * i)) = ((256 ^ i : Nat) : Int) by rw [show (256 : Nat) = 2 ^ 8 from rfl, ← Nat.pow_mul]; simp, Int.fdiv_eq_ediv_of_nonneg _ (Int.natCast_nonneg _), ← Int.natCast_ediv]
    have hw : IntKind.u8.wrap ((m / 256 ^ i : Nat) : Int) = ((m / 256 ^ i % 256 : Nat) : Int) := by rw [IntKind.wrap_u8]; omega
    rw [hw, toUInt8_int (Nat.mod_lt _ (by decide))]
    obtain ⟨A2, c2, w2, hrun, ho2, hg2, _⟩ := appendB ho (m / 256 ^ i % 256).toUInt8 (by omega) 5 45
    refine ⟨by omega, A2, _, c2, w2, hrun, ?_⟩
    rw [wi _ (by omega) (by omega)]
    refine ⟨⟨i, r ++ [(m / 256 ^ i % 256).toUInt8], by omega, by omega, by rw [hr, hi]; simp, by simp [hrl]; omega, by simp; omega, by rw [← List.append_assoc]; exact ho2, hg.trans hg2⟩, by dsimp only; omega⟩
  · obtain rfl : j = 0 := by omega
    have : hi m k = r := by rw [hr]; simp [hi]
    rw [this]
    exact ⟨A1, c1, rfl, ho, hg⟩
theorem fits_shift {n : Int} (h1 : -9223372036854775808 ≤ n) (h2 : n ≤ 9223372036854775807) {k : Nat} (hk : 1 ≤ k) (hk' : k ≤ 7) :
    (Int.fdiv (IntKind.i64.wrap (n * 2 ^ min (Int.toNat (IntKind.i64.wrap (64 - IntKind.i64.wrap (8 * (k : Int))))) 64)) (2 ^ min (Int.toNat (IntKind.i64.wrap (64 - IntKind.i64.wrap (8 * (k : Int))))) 64) = n) ↔ fits n k = true := by
  have e : IntKind.i64.wrap (64 - IntKind.i64.wrap (8 * (k : Int))) = ((64 - 8 * k : Nat) : Int) := by
    rw [wi (8 * (k : Int)) (by omega) (by omega), wi _ (by omega) (by omega)]; omega
  rw [e, Int.toNat_natCast, IntKind.wrap_i64, Int.fdiv_eq_ediv_of_nonneg _ (by exact Int.le_of_lt (Int.pow_pos (by decide)))]
  unfold fits
  rw [decide_eq_true_iff]
  obtain rfl | rfl | rfl | rfl | rfl | rfl | rfl : k = 1 ∨ k = 2 ∨ k = 3 ∨ k = 4 ∨ k = 5 ∨ k = 6 ∨ k = 7 := by omega
  all_goals
    simp only [Nat.reduceMul, Nat.reduceSub, Nat.reducePow, Int.reducePow, show min 56 64 = 56 from rfl, show min 48 64 = 48 from rfl, show min 40 64 = 40 from rfl, show min 32 64 = 32 from rfl, show min 24 64 = 24 from rfl, show min 16 64 = 16 from rfl, show min 8 64 = 8 from rfl, Int.cast_ofNat_Int]
    omega
theorem wide_spec (w : World) (n : Int) (h1 : -9223372036854775808 ≤ n) (h2 : n ≤ 9223372036854775807) :
    CallsV Tryd.prog 69 #[.int .i64 n] w fun v w' => v = .int .i64 (wide n : Nat) ∧ w' = w := by
  refine record_wide.calls okay ?_
  unfold record_wide.W
  have e : ∀ k : Nat, k ≤ 8 → IntKind.i64.wrap (64 - IntKind.i64.wrap (8 * (k : Int))) = ((64 - 8 * k : Nat) : Int) := by
    intro k hk
    rw [wi (8 * (k : Int)) (by omega) (by omega), wi _ (by omega) (by omega)]; omega
  have fs : ∀ (k : Nat) (A B : Prop), 1 ≤ k → k ≤ 7 → (fits n k = false → A) → (fits n k = true → B) →
      (bif !decide (Int.fdiv (IntKind.i64.wrap (n * 2 ^ min (Int.toNat (IntKind.i64.wrap (64 - IntKind.i64.wrap (8 * (k : Int))))) 64)) (2 ^ min (Int.toNat (IntKind.i64.wrap (64 - IntKind.i64.wrap (8 * (k : Int))))) 64) = n) then A else B) := by
    intro k A B k1 k7 ha hb
    refine brn (fun h => ha ?_) (fun h => hb ((fits_shift h1 h2 k1 k7).1 h))
    cases hf : fits n k with
    | false => rfl
    | true => exact absurd ((fits_shift h1 h2 k1 k7).2 hf) h
  have e1 := e 1 (by omega)
  refine ⟨fun x w1 => ∃ k : Nat, 1 < k ∧ k ≤ 8 ∧ x = (k : Int) ∧ wide n = wideFrom n (8 - k) k ∧ w1 = w, fun x _ => (9 - x).toNat, ⟨?_, ?_, ?_⟩, ?_⟩
  · rw [show ((1 : Int)) = ((1 : Nat) : Int) from rfl, e1]; omega
  · rw [show ((1 : Int)) = ((1 : Nat) : Int) from rfl, e1]; omega
  · have f1 := fun A B => fs 1 A B (by decide) (by decide)
    simp only [show ((1 : Nat) : Int) = 1 from rfl] at f1
    refine f1 _ _ (fun hf => ?_) (fun hf => ⟨?_, rfl⟩)
    · exact ⟨2, by omega, by omega, by rw [wi _ (by omega) (by omega)]; rfl, by show wideFrom n 7 1 = _; rw [wideFrom, hf, if_neg (by decide)], rfl⟩
    · have : wide n = 1 := by show wideFrom n 7 1 = _; rw [wideFrom, hf, if_pos rfl]
      rw [this]; rfl
  · rintro _ w1 ⟨k, hk, hk8, rfl, hw, rfl⟩
    refine brd (fun hlt => ?_) (fun hge => ?_)
    · refine ⟨by rw [e k (by omega)]; omega, by rw [e k (by omega)]; omega, ?_⟩
      have hwk : wideFrom n (8 - k) k = if fits n k then k else wideFrom n (8 - (k + 1)) (k + 1) := by
        rw [show 8 - k = (8 - (k + 1)) + 1 by omega, wideFrom]
      rw [hwk] at hw
      refine fs k _ _ (by omega) (by omega) (fun hf => ?_) (fun hf => ⟨?_, rfl⟩)
      · rw [hf] at hw
        rw [wi _ (by omega) (by omega)]
        exact ⟨⟨k + 1, by omega, by omega, rfl, hw, rfl⟩, by dsimp only; omega⟩
      · rw [hf] at hw
        rw [show wide n = k from hw]
    · obtain rfl : k = 8 := by omega
      refine ⟨?_, rfl⟩
      rw [hw]; rfl
theorem sort_spec (w : World) (v : V) (hg : good v) (hs : v.s.size ≤ 1000000000) :
    CallsV Tryd.prog 67 #[.agg #[.int .u8 v.k, .int .i64 v.n, .string v.s]] w fun r w' => r = .int .u64 (sort v : Nat) ∧ Ext w w' := by
  refine record_sort.calls okay ?_
  unfold record_sort.W
  have b : Blk (w.alloc (.cells #[.int .u8 v.k, .int .i64 v.n, .string v.s] 51)) w.heap.size [.int .u8 v.k, .int .i64 v.n, .string v.s] := Blk.alloc _ _ _
  have e : Ext w (w.alloc (.cells #[.int .u8 v.k, .int .i64 v.n, .string v.s] 51)) := Fr.alloc NoB w _
  generalize w.alloc (.cells #[.int .u8 v.k, .int .i64 v.n, .string v.s] 51) = W at *
  refine ⟨_, b.cell rfl, ?_⟩
  have hwl := wide_le v.n
  unfold sort
  refine brd (fun h1 => ?_) (fun h1 => ?_)
  · rw [if_pos h1]
    refine ⟨_, b.cell rfl, (wide_spec W v.n hg.2.1.1 hg.2.1.2).same ⟨_, rfl, ?_, e⟩⟩
    rw [wu _ (by omega) (by omega)]
  rw [if_neg h1]
  refine brd (fun h1 => ?_) (fun h1 => ?_)
  · rw [if_pos h1]
    refine ⟨_, b.cell rfl, ?_, e⟩
    rw [wu (v.s.size : Int) (by omega) (by omega), wu (2 * (v.s.size : Int)) (by omega) (by omega), wu _ (by omega) (by omega)]
    rfl
  rw [if_neg h1]
  refine brd (fun h1 => ?_) (fun h1 => ?_)
  · rw [if_pos h1]
    refine ⟨_, b.cell rfl, ?_, e⟩
    rw [wu (v.s.size : Int) (by omega) (by omega), wu (2 * (v.s.size : Int)) (by omega) (by omega), wu _ (by omega) (by omega)]
    rfl
  rw [if_neg h1]
  exact ⟨rfl, e⟩
theorem Src.sb (w : World) (s : ByteArray) : Src Tryd.prog w 1 (.string s) (sb s).length ((Go.Sx.sb s).map u8) := by
  have := Src.str (P := Tryd.prog) (w := w) s
  rw [sb_length]
  have e : Lib.strCells s = (Go.Sx.sb s).map u8 := by simp [Lib.strCells, Go.Sx.sb, u8]
  rw [← e]; exact this
def Tells (w : World) (r : List UInt8 × Int) (v : Value) (w' : World) : Prop := ∃ A c, v = .tuple #[.slice A r.1.length c, .int .i64 r.2] ∧ OwnB w' A c r.1 ∧ Ext w w' ∧ New w A
theorem Tells.nil {w w' : World} (e : Ext w w') (x : Int) : Tells w ([], x) (.tuple #[.slice none 0 0, .int .i64 x]) w' := ⟨none, 0, rfl, OwnB.nil _, e, New.none _⟩
theorem rightRow_zero {l : List V} (h : rightRow l = 0) : l.length ≤ 200 ∧ l.all right = true := by
  unfold rightRow at h
  split at h
  · cases h
  · refine ⟨by omega, ?_⟩
    split at h
    · assumption
    · cases h
theorem getD_mem {l : List V} {i : Nat} (h : i < l.length) : l.getD i V0 ∈ l := by simp [List.getD, h]
def putL (l : List V) : List UInt8 := B1.enc l.length ++ l.flatMap (fun v => B1.enc (sort v)) ++ l.flatMap body
def putR (l : List V) : List UInt8 × Int := if rightRow l ≠ 0 then ([], rightRow l) else if 1048576 < (putL l).length then ([], 3) else (putL l, 0)
theorem flat_snoc {f : V → List UInt8} (l : List V) (j : Nat) (h : j < l.length) : (l.take (j + 1)).flatMap f = (l.take j).flatMap f ++ f (l.getD j V0) := by
  have : l.take (j + 1) = l.take j ++ [l.getD j V0] := by rw [List.take_add_one]; simp [List.getD, h]
  rw [this, List.flatMap_append]; simp
theorem sort_lt (v : V) (hs : v.s.size ≤ 65536) : sort v < 2 ^ 64 := by
  have := wide_le v.n
  unfold sort; split
  · omega
  · split
    · omega
    · split <;> omega
theorem flat_le {f : V → List UInt8} {M : Nat} : ∀ (l : List V), (∀ v ∈ l, (f v).length ≤ M) → (l.flatMap f).length ≤ l.length * M
  | [], _ => by simp
  | v :: l, h => by
    have h1 := flat_le l (fun v hv => h v (List.mem_cons.2 (.inr hv)))
    have h2 := h v (List.mem_cons.2 (.inl rfl))
    rw [List.flatMap_cons, List.length_append, List.length_cons, Nat.add_mul, Nat.one_mul]; omega
theorem body_length (v : V) : (body v).length ≤ 8 + v.s.size := by
  have := wide_le v.n
  unfold body; split <;> simp [hi_length, sb_length] <;> omega
theorem bounded_spec {w : World} {A : Option Addr} {c n : Nat} : CallsV Tryd.prog 70 #[.slice A n c] w fun r w' => r = (if 1048576 < n then .tuple #[.slice none 0 0, .int .i64 3] else .tuple #[.slice A n c, .int .i64 0]) ∧ w' = w := by
  refine record_bounded.calls okay ?_
  unfold record_bounded.W
  refine brd (fun h => ?_) (fun h => ?_)
  · exact ⟨by rw [if_pos (by omega)], rfl⟩
  · exact ⟨by rw [if_neg (by omega)], rfl⟩
theorem testsR (w : World) : Tests KV argA w (.func (.func 86) #[] #[]) wrongV := by
  intro u _ a cs hr
  have hr : cs = vc a := hr
  subst hr
  refine ⟨_, #[], #[], rfl, by kernel_rfl, ?_⟩
  refine record_right_1.calls okay ?_
  unfold record_right_1.W
  intro g w1 f
  repeat (first | refine ⟨_, Blk.cell (f.blk) (by rfl), ?_⟩ | refine ⟨_, _, _, Blk.cell (f.blk) (by rfl), ?_⟩)
  refine (right1_spec w1 a).mono ?_
  rintro _ w2 ⟨rfl, e⟩
  exact ⟨_, rfl, rfl, f.ext.trans' e⟩
theorem right_spec {w : World} {A : Option Addr} {c : Nat} {l : List V} (h : Imm KV NoB w A l) (hl : l.length ≤ maxLen) :
    CallsV Tryd.prog 66 #[.slice A l.length c] w fun r w' => r = .int .i64 (rightRow l) ∧ Ext w w' := by
  refine record_right.calls okay ?_
  unfold record_right.W rightRow
  refine brd (fun h1 => ⟨by rw [if_pos (by omega)], .refl _ _⟩) (fun h1 => ?_)
  rw [if_neg (by omega)]
  refine (contains_api_Value rfl h hl (testsR w)).mono ?_
  rintro _ w1 ⟨rfl, e⟩
  have ha : l.any wrongV = !l.all right := by
    rw [List.not_all_eq_any_not]; rfl
  rw [ha]
  refine ⟨_, rfl, brnb (fun h => ?_) (fun h => ?_)⟩
  · rw [h]; exact ⟨rfl, e⟩
  · rw [h]; exact ⟨rfl, e⟩
theorem Put_spec {w : World} {A : Option Addr} {c : Nat} {l : List V} (h : Imm KV NoB w A l) (hl : l.length ≤ maxLen) (hg : ∀ v ∈ l, good v) :
    CallsV Tryd.prog 30 #[.slice A l.length c] w fun r w' => Tells w (putR l) r w' := by
  refine record_Put.calls okay ?_
  unfold record_Put.W
  refine (right_spec h hl).mono ?_
  rintro r w1 ⟨rfl, e1⟩
  refine ⟨_, rfl, ?_⟩
  unfold putR
  refine brn (fun hr => ?_) (fun hr => ?_)
  · rw [if_pos hr]; exact Tells.nil e1 _
  rw [if_neg (by rw [hr]; simp)]
  obtain ⟨h200, hall⟩ := rightRow_zero hr
  rw [List.all_eq_true] at hall
  have h1 := h.ext KV_pos e1
  rw [wu _ (by omega) (by omega)]
  refine (Uint_spec (OwnB.nil w1) l.length (by omega) (by simp)).mono ?_
  rw [List.nil_append]
  rintro r w2 ⟨A2, c2, rfl, ho2, hg2, _⟩
  have e2 := hg2.ext (.refl _ _) (New.none _)
  have n2 := hg2.new (.refl _ _) (New.none _)
  have he := B1.enc_le_ten (m := l.length) (by omega)
  refine ⟨_, _, _, rfl, ?_⟩
  have hsl : ∀ v ∈ l, (B1.enc (sort v)).length ≤ 10 := fun v hv => B1.enc_le_ten (sort_lt v (right_size (hall v hv)))
  have hbl : ∀ v ∈ l, (body v).length ≤ 65544 := fun v hv => by have := body_length v; have := right_size (hall v hv); omega
  have hS : ∀ j, ((l.take j).flatMap fun v => B1.enc (sort v)).length ≤ 2000 := fun j => by
    have := flat_le (f := fun v => B1.enc (sort v)) (M := 10) (l.take j) (fun v hv => hsl v (List.mem_of_mem_take hv))
    rw [List.length_take] at this; omega
  have hB : ∀ j, ((l.take j).flatMap body).length ≤ 13108800 := fun j => by
    have := flat_le (f := body) (M := 65544) (l.take j) (fun v hv => hbl v (List.mem_of_mem_take hv))
    rw [List.length_take] at this; omega
  refine ⟨fun A3 n3 c3 x w3 => ∃ j : Nat, j ≤ l.length ∧ x = (j : Int) ∧ n3 = (B1.enc l.length ++ (l.take j).flatMap fun v => B1.enc (sort v)).length ∧ OwnB w3 A3 c3 (B1.enc l.length ++ (l.take j).flatMap fun v => B1.enc (sort v)) ∧ Ext w1 w3 ∧ New w1 A3,
    fun _ _ _ x _ => (l.length - x).toNat, ⟨0, by omega, rfl, by simp, by simpa using ho2, e2, n2⟩, ?_⟩
  rintro A3 _ c3 _ w3 ⟨j, hj, rfl, rfl, ho3, e3, n3⟩
  have hSj := hS j
  refine brd (fun hlt => ?_) (fun hge => ?_)
  · obtain ⟨ad, hA, q1, q2, q3⟩ := itemV0 (h1.ext KV_pos e3) (x := (j : Int)) (by omega) (by omega)
    refine ⟨ad, hA, ⟨by omega, by omega⟩, _, q1, _, q2, _, q3, ?_⟩
    rw [Int.toNat_natCast]
    have hjl : j < l.length := by omega
    have hgv := hg _ (getD_mem hjl)
    have hsz := right_size (hall _ (getD_mem hjl))
    have hsn := flat_snoc (f := fun v => B1.enc (sort v)) l j hjl
    generalize l.getD j V0 = v at *
    obtain ⟨hs, b, e⟩ := varV w3 #[.int .u8 0, .int .i64 0, .string (ByteArray.mk #[])] rfl 51 (.int .u8 v.k) (.int .i64 v.n) (.string v.s)
    refine ⟨hs.1, hs.2.1, hs.2.2, _, b.cell rfl, _, b.cell rfl, _, b.cell rfl, ?_⟩
    refine (sort_spec _ v hgv (by omega)).mono ?_
    rintro r w4 ⟨rfl, e4⟩
    refine ⟨_, rfl, ?_⟩
    refine (Uint_spec (ho3.ext (e.trans' e4)) (sort v) (sort_lt v hsz) (by rw [List.length_append]; omega)).mono ?_
    rintro r w5 ⟨A5, c5, rfl, ho5, hg5, _⟩
    have e34 := e3.trans' (e.trans' e4)
    refine ⟨_, _, _, rfl, ?_⟩
    rw [wi _ (by omega) (by omega)]
    rw [List.append_assoc, ← hsn] at ho5 ⊢
    exact ⟨⟨j + 1, by omega, rfl, rfl, ho5, hg5.ext e34 n3, hg5.new e34 n3⟩, by dsimp only; omega⟩
  obtain rfl : j = l.length := by omega
  rw [List.take_length] at ho3 hSj ⊢
  refine ⟨fun A4 n4 c4 x w4 => ∃ j : Nat, j ≤ l.length ∧ x = (j : Int) ∧ n4 = (B1.enc l.length ++ (l.flatMap fun v => B1.enc (sort v)) ++ (l.take j).flatMap body).length ∧ OwnB w4 A4 c4 (B1.enc l.length ++ (l.flatMap fun v => B1.enc (sort v)) ++ (l.take j).flatMap body) ∧ Ext w1 w4 ∧ New w1 A4,
    fun _ _ _ x _ => (l.length - x).toNat, ⟨0, by omega, rfl, by simp, by simpa using ho3, e3, n3⟩, ?_⟩
  rintro A4 _ c4 _ w4 ⟨j, hj, rfl, rfl, ho4, e4, n4⟩
  have hBj := hB j
  refine brd (fun hlt => ?_) (fun hge => ?_)
  · obtain ⟨ad, hA, q1, q2, q3⟩ := itemV0 (h1.ext KV_pos e4) (x := (j : Int)) (by omega) (by omega)
    refine ⟨ad, hA, ⟨by omega, by omega⟩, _, q1, _, q2, _, q3, ?_⟩
    rw [Int.toNat_natCast]
    have hjl : j < l.length := by omega
    have hgv := hg _ (getD_mem hjl)
    have hsz := right_size (hall _ (getD_mem hjl))
    have hsn := flat_snoc (f := body) l j hjl
    generalize l.getD j V0 = v at *
    obtain ⟨hs, b, e⟩ := varV w4 #[.int .u8 0, .int .i64 0, .string (ByteArray.mk #[])] rfl 51 (.int .u8 v.k) (.int .i64 v.n) (.string v.s)
    have hnot : ¬ ownB A4 w4.heap.size := fun hk => absurd (Own.lt ho4 _ hk) (Nat.lt_irrefl _)
    refine ⟨hs.1, hs.2.1, hs.2.2, _, b.cell rfl, ?_⟩
    have e4' := e4.trans' e
    have ho4' := ho4.ext e
    generalize w4.heap.size = g at *
    generalize (((w4.alloc (.cells #[.int .u8 0, .int .i64 0, .string (ByteArray.mk #[])] 51)).setCell ((⟨g, 0, none⟩ : Addr).add 0) (.int .u8 v.k)).setCell ((⟨g, 0, none⟩ : Addr).add (0 + 1)) (.int .i64 v.n)).setCell ((⟨g, 0, none⟩ : Addr).add (0 + 1 + 1)) (.string v.s) = W at *
    have hlen : (B1.enc l.length ++ (l.flatMap fun v => B1.enc (sort v)) ++ (l.take j).flatMap body).length ≤ 20000000 := by simp only [List.length_append]; omega
    generalize hpre : B1.enc l.length ++ (l.flatMap fun v => B1.enc (sort v)) = pre at *
    refine brd (fun h1 => ?_) (fun h1 => ?_)
    · refine ⟨fun u => Blk u g [.int .u8 v.k, .int .i64 v.n, .string v.s], b.ext (Fr.drew NoB W), _, fun u hu => hu.cell rfl, _, fun u hu => hu.cell rfl, ?_⟩
      refine (wide_spec _ v.n hgv.2.1.1 hgv.2.1.2).same ⟨_, rfl, fun u => Blk u g [.int .u8 v.k, .int .i64 v.n, .string v.s], fun _ h => h, b.ext (Fr.drew NoB W), ?_⟩
      have hwl := wide_le v.n
      have hm : IntKind.u64.wrap v.n = (((v.n % 18446744073709551616).toNat : Nat) : Int) := by rw [wu_mod]; omega
      rw [hm]
      have ed := e4'.trans' (Fr.drew NoB W)
      refine (high_spec (ho4'.ext (Fr.drew NoB W)) (v.n % 18446744073709551616).toNat (wide v.n) (by omega) hwl (by omega)).mono ?_
      rintro r w5 ⟨A5, c5, rfl, ho5, hg5⟩
      have b5 := (b.ext (Fr.drew NoB W)).keep hg5.fr hnot
      have hhl := hi_length (v.n % 18446744073709551616).toNat (wide v.n)
      refine ⟨_, _, _, rfl, fun u => Blk u g [.int .u8 v.k, .int .i64 v.n, .string v.s], fun _ h => h, b5, _, b5.cell rfl, ?_⟩
      obtain ⟨A6, c6, w6, hr6, ho6, hg6⟩ := appendBs ho5 (Src.sb w5 v.s) (by rw [List.length_append, hhl, sb_length]; omega) 45 isS
      refine ⟨_, _, _, _, hr6, ?_⟩
      rw [wi _ (by omega) (by omega)]
      have hcat : pre ++ (l.take j).flatMap body ++ hi (v.n % 18446744073709551616).toNat (wide v.n) ++ sb v.s = pre ++ (l.take (j + 1)).flatMap body := by
        rw [hsn, body, if_pos h1]; simp
      rw [hcat] at ho6 ⊢
      have hg56 := hg5.trans hg6
      exact ⟨⟨j + 1, by omega, rfl, rfl, ho6, hg56.ext ed n4, hg56.new ed n4⟩, by dsimp only; omega⟩
    · obtain ⟨A6, c6, w6, hr6, ho6, hg6⟩ := appendBs ho4' (Src.sb W v.s) (by rw [sb_length]; omega) 45 isS
      refine ⟨_, b.cell rfl, _, _, _, _, hr6, ?_⟩
      rw [wi _ (by omega) (by omega)]
      have hcat : pre ++ (l.take j).flatMap body ++ sb v.s = pre ++ (l.take (j + 1)).flatMap body := by
        rw [hsn, body, if_neg h1]; simp
      rw [hcat] at ho6 ⊢
      exact ⟨⟨j + 1, by omega, rfl, rfl, ho6, hg6.ext e4' n4, hg6.new e4' n4⟩, by dsimp only; omega⟩
  obtain rfl : j = l.length := by omega
  rw [List.take_length] at ho4 ⊢
  refine (bounded_spec).same ?_
  show _
  by_cases hb : 1048576 < (putL l).length
  · have hb' := hb
    unfold putL at hb'
    rw [if_pos hb, if_pos hb']
    exact ⟨_, _, _, _, rfl, Tells.nil (e1.trans' e4) _⟩
  · have hb' := hb
    unfold putL at hb'
    rw [if_neg hb, if_neg hb']
    exact ⟨_, _, _, _, rfl, A4, c4, rfl, ho4, e1.trans' e4, n4.ext e1⟩
end Go.Proofs.YtaifphjenebgoaaDoor
/- Layer 15, plain: what is so of each instruction of a program that may be. -/
set_option linter.unusedVariables false
set_option linter.unusedSimpArgs false
namespace K15
open Go.Sx R1
theorem okFrom_at (p : Prog) : ∀ (l : List Ins) (s : Nat), okFrom p s l = true → ∀ (t : Nat) (h : t < l.length), okAt p (s + t) l[t] = true
  | [], s, _, t, h => by simp at h
  | i :: l, s, ho, t, h => by
    rw [okFrom, Bool.and_eq_true] at ho
    cases t with
    | zero => exact ho.1
    | succ t =>
      have := okFrom_at p l (s + 1) ho.2 t (by simpa using h)
      rw [show s + (t + 1) = s + 1 + t by omega]
      simpa using this
structure Checked (p : Prog) : Prop where
  parts : partsP p = true
  lo : 1 ≤ p.code.length
  hi : p.code.length ≤ 4000
  last : (p.code.getD (p.code.length - 1) I0).op = 35
  at_ : ∀ (t : Nat) (h : t < p.code.length), okAt p t p.code[t] = true
theorem checked {p : Prog} (h : checkP p = true) : Checked p := by
  simp only [checkP, Bool.and_eq_true, decide_eq_true_eq] at h
  obtain ⟨h1, h2, h3, h4, h5⟩ := h
  exact ⟨h1, h2, h3, h4, fun t ht => by have := okFrom_at p p.code 0 h5 t ht; rwa [Nat.zero_add] at this⟩
theorem fieldsL_of {p : Prog} {t : Int} {i : Ins} {x y z u : UInt8} (hs : shapeP i.op = [x, y, z, u]) (h : fieldsP p t i = true) :
    fieldP p t x.toNat i.a = true ∧ fieldP p t y.toNat i.b = true ∧ fieldP p t z.toNat i.c = true ∧ fieldP p t u.toNat i.d = true := by
  unfold fieldsP at h
  rw [hs] at h
  simp only [fieldsL, Bool.and_eq_true] at h
  exact h
theorem field_j {p : Prog} {t n : Int} (h : fieldP p t ((106 : UInt8).toNat : Int) n = true) : t < n ∧ n < p.code.length := by
  have h : fieldP p t 106 n = true := h
  simpa [fieldP] using h
theorem field_n {p : Prog} {t n : Int} (h : fieldP p t ((110 : UInt8).toNat : Int) n = true) : 1 ≤ n ∧ n ≤ t := by
  have h : fieldP p t 110 n = true := h
  simpa [fieldP] using h
/-- where instructions lead, of a program that may be -/
theorem jumps {p : Prog} (h : Checked p) (t : Nat) (ht : t < p.code.length) :
    ((p.code[t].op = 10 ∨ p.code[t].op = 11 ∨ p.code[t].op = 12) → (t : Int) < p.code[t].a ∧ p.code[t].a < p.code.length) ∧
    ((p.code[t].op = 13 ∨ p.code[t].op = 14 ∨ p.code[t].op = 16 ∨ p.code[t].op = 17 ∨ p.code[t].op = 21) → (t : Int) < p.code[t].b ∧ p.code[t].b < p.code.length) ∧
    ((p.code[t].op = 15 ∨ p.code[t].op = 22) → 1 ≤ p.code[t].b ∧ p.code[t].b ≤ (t : Int)) := by
  have ho := h.at_ t ht
  simp only [okAt, Bool.and_eq_true] at ho
  have hf := ho.1
  generalize p.code[t] = i at *
  have sh : ∀ o l, i.op = o → lookS shapes o = l → shapeP i.op = l := fun o l h1 h2 => by rw [h1]; exact h2
  refine ⟨fun h => ?_, fun h => ?_, fun h => ?_⟩
  · rcases h with h | h | h
    · exact field_j (fieldsL_of (sh _ _ h rfl) hf).1
    · exact field_j (fieldsL_of (sh _ _ h rfl) hf).1
    · exact field_j (fieldsL_of (sh _ _ h rfl) hf).1
  · rcases h with h | h | h | h | h
    · exact field_j (fieldsL_of (sh _ _ h rfl) hf).2.1
    · exact field_j (fieldsL_of (sh _ _ h rfl) hf).2.1
    · exact field_j (fieldsL_of (sh _ _ h rfl) hf).2.1
    · exact field_j (fieldsL_of (sh _ _ h rfl) hf).2.1
    · exact field_j (fieldsL_of (sh _ _ h rfl) hf).2.1
  · rcases h with h | h
    · exact field_n (fieldsL_of (sh _ _ h rfl) hf).2.1
    · exact field_n (fieldsL_of (sh _ _ h rfl) hf).2.1
end K15
/- Layer 15, plain: an instruction's number that is too great, or below 0. -/
set_option linter.unusedVariables false
set_option linter.unusedSimpArgs false
namespace K15
open Go.Sx R1
def bigN (n : Int) : Prop := n = 1073741824 ∨ n = -1
structure Sizes (p : Prog) : Prop where
  regs : p.regs ≤ 250
  binds : p.binds ≤ 1000
  consts : p.consts.length ≤ 1000
  curs : p.curs.length ≤ 12
  sorts : p.sorts.length ≤ 6
  tots : p.tots.length ≤ 60
  code : p.code.length ≤ 4000
theorem Checked.sizes {p : Prog} (h : Checked p) : Sizes p := by
  have h1 := h.parts
  simp only [partsP, within, Bool.and_eq_true, decide_eq_true_eq] at h1
  obtain ⟨_, h2, h3, _, h4, h5, h6, h7, _⟩ := h1
  exact ⟨h2.2, h3.2, h4, h5, h6, h7, h.hi⟩
theorem below_big {n hi : Int} (hn : bigN n) (h : hi ≤ 4000) : below n hi = false := by
  unfold below bigN at *
  rcases hn with rfl | rfl
  · rw [Bool.and_eq_false_iff]; exact .inr (decide_eq_false (by omega))
  · rfl
theorem fieldP_big {p : Prog} (S : Sizes p) {t : Nat} (ht : t < p.code.length) (l : Int) {n : Int} (hn : bigN n) : fieldP p t l n = false := by
  obtain ⟨s1, s2, s3, s4, s5, s6, s7⟩ := S
  have b : ∀ hi : Int, hi ≤ 4000 → below n hi = false := fun hi h => below_big hn h
  have n0 : decide (n = 0) = false := decide_eq_false (by unfold bigN at hn; omega)
  have n1 : (decide ((t : Int) < n) && decide (n < p.code.length)) = false := by
    unfold bigN at hn
    rcases hn with rfl | rfl
    · rw [Bool.and_eq_false_iff]; exact .inr (decide_eq_false (by omega))
    · rw [Bool.and_eq_false_iff]; exact .inl (decide_eq_false (by omega))
  have n2 : (decide (1 ≤ n) && decide (n ≤ (t : Int))) = false := by
    unfold bigN at hn
    rcases hn with rfl | rfl
    · rw [Bool.and_eq_false_iff]; exact .inr (decide_eq_false (by omega))
    · rfl
  have n3 : (decide (1 ≤ n) && decide (n ≤ p.regs)) = false := by
    unfold bigN at hn
    rcases hn with rfl | rfl
    · rw [Bool.and_eq_false_iff]; exact .inr (decide_eq_false (by omega))
    · rfl
  unfold fieldP
  rw [n0, n1, n2, n3, b p.regs (by omega), b p.consts.length (by omega), b p.binds (by omega), b p.sorts.length (by omega), b p.tots.length (by omega), b p.curs.length (by omega), b 15 (by decide), b 2 (by decide), b 10 (by decide), b 60 (by decide)]
  simp only [Bool.false_and, ite_self]
theorem fields_big {p : Prog} (S : Sizes p) {t : Nat} (ht : t < p.code.length) {i : Ins} {n : Int} (hn : bigN n) (h : i.a = n ∨ i.b = n ∨ i.c = n ∨ i.d = n) : fieldsP p t i = false := by
  unfold fieldsP
  generalize shapeP i.op = l
  have F : ∀ l, fieldP p t l n = false := fun l => fieldP_big S ht l hn
  unfold fieldsL
  split
  · rcases h with h | h | h | h
    · rw [h, F]; rfl
    · rw [h, F]; simp
    · rw [h, F]; simp
    · rw [h, F]; simp
  · rfl
/-- a program that may be, one of its instructions' numbers put so: it may not be -/
theorem check_big {p : Prog} (h : Checked p) {t : Nat} (ht : t < p.code.length) {i : Ins} {n : Int} (hn : bigN n) (hi : i.a = n ∨ i.b = n ∨ i.c = n ∨ i.d = n) :
    checkP { p with code := p.code.set t i } = false := by
  cases hq : checkP { p with code := p.code.set t i } with
  | false => rfl
  | true =>
    have hc := checked hq
    have ht' : t < (p.code.set t i).length := by rw [List.length_set]; exact ht
    have ho := hc.at_ t ht'
    simp only [List.getElem_set_self, okAt, Bool.and_eq_true] at ho
    have := fields_big (p := { p with code := p.code.set t i }) hc.sizes ht' hn hi
    rw [this] at ho
    exact absurd ho.1 (by decide)
end K15
/- Layer 15, plain: a program as bytes; of two programs that may be the bytes are the same just if they are. -/
set_option linter.unusedVariables false
set_option linter.unusedSimpArgs false
namespace K15
open Go.Sx R1
/-- from the front, the thing can be told from its bytes -/
def SD {α : Type} (S : α → Prop) (e : α → List UInt8) : Prop := ∀ x y a b, S x → S y → e x ++ a = e y ++ b → x = y ∧ a = b
def okN (n : Int) : Prop := 0 ≤ n ∧ n < 9223372036854775808
def eI (n : Int) : List UInt8 := B1.enc n.toNat
def eB (l : List UInt8) : List UInt8 := B1.enc l.length ++ l
def eF (b : Bool) : List UInt8 := eI (if b then 1 else 0)
theorem sd_enc {m n : Nat} {a b : List UInt8} (hm : m < 18446744073709551616) (hn : n < 18446744073709551616) (h : B1.enc m ++ a = B1.enc n ++ b) : m = n ∧ a = b := by
  have h1 := B1.dec_enc m 0 a (by omega) (B1.lim64 hm) (fun h => by omega)
  have h2 := B1.dec_enc n 0 b (by omega) (B1.lim64 hn) (fun h => by omega)
  rw [h, h2] at h1
  injection h1 with h3 h4
  subst h3
  exact ⟨rfl, List.append_cancel_left h⟩
theorem sd_I : SD okN eI := fun x y a b hx hy h => by
  unfold okN at hx hy
  obtain ⟨h1, h2⟩ := sd_enc (m := x.toNat) (n := y.toNat) (by omega) (by omega) h
  exact ⟨by omega, h2⟩
theorem sd_B : SD (fun l => l.length < 18446744073709551616) eB := fun x y a b hx hy h => by
  unfold eB at h
  rw [List.append_assoc, List.append_assoc] at h
  obtain ⟨h1, h2⟩ := sd_enc hx hy h
  exact List.append_inj h2 h1
theorem sd_F : SD (fun _ => True) eF := fun x y a b _ _ h => by
  obtain ⟨h1, h2⟩ := sd_I _ _ a b (by unfold okN; split <;> omega) (by unfold okN; split <;> omega) h
  refine ⟨?_, h2⟩
  cases x <;> cases y <;> simp at h1 <;> rfl
theorem sd_list {α : Type} {S : α → Prop} {e : α → List UInt8} (h : SD S e) : ∀ (xs ys : List α) (a b : List UInt8), xs.length = ys.length → (∀ x ∈ xs, S x) → (∀ y ∈ ys, S y) → xs.flatMap e ++ a = ys.flatMap e ++ b → xs = ys ∧ a = b
  | [], [], a, b, _, _, _, he => ⟨rfl, by simpa using he⟩
  | [], _ :: _, _, _, hl, _, _, _ => by simp at hl
  | _ :: _, [], _, _, hl, _, _, _ => by simp at hl
  | x :: xs, y :: ys, a, b, hl, hx, hy, he => by
    rw [List.flatMap_cons, List.flatMap_cons, List.append_assoc, List.append_assoc] at he
    obtain ⟨h1, h2⟩ := h x y _ _ (hx x (by simp)) (hy y (by simp)) he
    obtain ⟨h3, h4⟩ := sd_list h xs ys a b (by simpa using hl) (fun z hz => hx z (by simp [hz])) (fun z hz => hy z (by simp [hz])) h2
    exact ⟨by rw [h1, h3], h4⟩
/-- a list with its length ahead -/
def eL {α : Type} (e : α → List UInt8) (l : List α) : List UInt8 := eI l.length ++ l.flatMap e
theorem sd_L {α : Type} {S : α → Prop} {e : α → List UInt8} (h : SD S e) : SD (fun l => l.length < 9223372036854775808 ∧ ∀ x ∈ l, S x) (eL e) := fun x y a b hx hy he => by
  unfold eL at he
  rw [List.append_assoc, List.append_assoc] at he
  obtain ⟨h1, h2⟩ := sd_I _ _ _ _ ⟨by omega, by omega⟩ ⟨by omega, by omega⟩ he
  exact sd_list h x y a b (by omega) hx.2 hy.2 h2
theorem sb_inj {s t : ByteArray} (h : sb s = sb t) : s = t := by
  obtain ⟨⟨l⟩⟩ := s; obtain ⟨⟨m⟩⟩ := t
  have h : l = m := h
  rw [h]
def eS (s : ByteArray) : List UInt8 := eB (sb s)
theorem sd_S : SD (fun s => s.size < 18446744073709551616) eS := fun x y a b hx hy h => by
  obtain ⟨h1, h2⟩ := sd_B _ _ _ _ (by show (sb x).length < _; rw [sb_length]; exact hx) (by show (sb y).length < _; rw [sb_length]; exact hy) h
  exact ⟨sb_inj h1, h2⟩
def eCur (c : Cur) : List UInt8 := eS c.name ++ (eF c.ix ++ eF c.wr)
def eSrt (s : Srt) : List UInt8 := eL eF s.desc ++ (eI s.cols ++ eF s.dist)
def eTot (t : Tot) : List UInt8 := eS t.fn ++ eF t.dist
def eIns (i : Ins) : List UInt8 := eI i.op ++ (eI i.a ++ (eI i.b ++ (eI i.c ++ eI i.d)))
def fCur (c : Cur) : Prop := c.name.size < 18446744073709551616
def fSrt (s : Srt) : Prop := s.desc.length < 9223372036854775808 ∧ okN s.cols
def fTot (t : Tot) : Prop := t.fn.size < 18446744073709551616
def fIns (i : Ins) : Prop := okN i.op ∧ okN i.a ∧ okN i.b ∧ okN i.c ∧ okN i.d
theorem sd_Cur : SD fCur eCur := fun x y a b hx hy h => by
  unfold eCur at h
  simp only [List.append_assoc] at h
  obtain ⟨h1, h⟩ := sd_S _ _ _ _ hx hy h
  obtain ⟨h2, h⟩ := sd_F _ _ _ _ trivial trivial h
  obtain ⟨h3, e⟩ := sd_F _ _ _ _ trivial trivial h
  cases x; cases y
  simp only at h1 h2 h3
  subst h1; subst h2; subst h3
  exact ⟨rfl, e⟩
theorem sd_Srt : SD fSrt eSrt := fun x y a b hx hy h => by
  unfold eSrt at h
  simp only [List.append_assoc] at h
  obtain ⟨h1, h⟩ := sd_L sd_F _ _ _ _ ⟨hx.1, fun _ _ => trivial⟩ ⟨hy.1, fun _ _ => trivial⟩ h
  obtain ⟨h2, h⟩ := sd_I _ _ _ _ hx.2 hy.2 h
  obtain ⟨h3, e⟩ := sd_F _ _ _ _ trivial trivial h
  cases x; cases y
  simp only at h1 h2 h3
  subst h1; subst h2; subst h3
  exact ⟨rfl, e⟩
theorem sd_Tot : SD fTot eTot := fun x y a b hx hy h => by
  unfold eTot at h
  simp only [List.append_assoc] at h
  obtain ⟨h1, h⟩ := sd_S _ _ _ _ hx hy h
  obtain ⟨h3, e⟩ := sd_F _ _ _ _ trivial trivial h
  cases x; cases y
  simp only at h1 h3
  subst h1; subst h3
  exact ⟨rfl, e⟩
theorem sd_Ins : SD fIns eIns := fun x y a b hx hy h => by
  unfold eIns at h
  simp only [List.append_assoc] at h
  obtain ⟨h1, h⟩ := sd_I _ _ _ _ hx.1 hy.1 h
  obtain ⟨h2, h⟩ := sd_I _ _ _ _ hx.2.1 hy.2.1 h
  obtain ⟨h3, h⟩ := sd_I _ _ _ _ hx.2.2.1 hy.2.2.1 h
  obtain ⟨h4, h⟩ := sd_I _ _ _ _ hx.2.2.2.1 hy.2.2.2.1 h
  obtain ⟨h5, e⟩ := sd_I _ _ _ _ hx.2.2.2.2 hy.2.2.2.2 h
  cases x; cases y
  simp only at h1 h2 h3 h4 h5
  subst h1; subst h2; subst h3; subst h4; subst h5
  exact ⟨rfl, e⟩
/-- a program as bytes; f: a constant as bytes -/
def bytesP (f : V → List UInt8) (p : Prog) : List UInt8 :=
  eI p.ver ++ (eI p.regs ++ (eI p.binds ++ (eL eS p.names ++ (eL (fun v => eB (f v)) p.consts ++ (eL eCur p.curs ++ (eL eSrt p.sorts ++ (eL eTot p.tots ++ eL eIns p.code)))))))
/-- what may be written -/
structure Fine (p : Prog) : Prop where
  ver : okN p.ver
  regs : okN p.regs
  binds : okN p.binds
  l1 : p.names.length < 9223372036854775808
  names : ∀ s ∈ p.names, s.size < 18446744073709551616
  l2 : p.consts.length < 9223372036854775808
  consts : ∀ v ∈ p.consts, right v = true ∧ good v
  l3 : p.curs.length < 9223372036854775808
  curs : ∀ c ∈ p.curs, fCur c
  l4 : p.sorts.length < 9223372036854775808
  sorts : ∀ s ∈ p.sorts, fSrt s
  l5 : p.tots.length < 9223372036854775808
  tots : ∀ t ∈ p.tots, fTot t
  l6 : p.code.length < 9223372036854775808
  code : ∀ i ∈ p.code, fIns i
theorem sd_V {f : V → List UInt8} (hf : ∀ v v', right v = true ∧ good v → right v' = true ∧ good v' → f v = f v' → v = v') (hl : ∀ v, (f v).length < 18446744073709551616) : SD (fun v => right v = true ∧ good v) (fun v => eB (f v)) := fun x y a b hx hy h => by
  obtain ⟨h1, h2⟩ := sd_B _ _ _ _ (hl x) (hl y) h
  exact ⟨hf x y hx hy h1, h2⟩
theorem bytes_inj {f : V → List UInt8} (hf : ∀ v v', right v = true ∧ good v → right v' = true ∧ good v' → f v = f v' → v = v') (hl : ∀ v, (f v).length < 18446744073709551616) {p q : Prog} (hp : Fine p) (hq : Fine q) (h : bytesP f p = bytesP f q) : p = q := by
  have h : bytesP f p ++ [] = bytesP f q ++ [] := by rw [h]
  unfold bytesP at h
  simp only [List.append_assoc] at h
  obtain ⟨h1, h⟩ := sd_I _ _ _ _ hp.ver hq.ver h
  obtain ⟨h2, h⟩ := sd_I _ _ _ _ hp.regs hq.regs h
  obtain ⟨h3, h⟩ := sd_I _ _ _ _ hp.binds hq.binds h
  obtain ⟨h4, h⟩ := sd_L sd_S _ _ _ _ ⟨hp.l1, hp.names⟩ ⟨hq.l1, hq.names⟩ h
  obtain ⟨h5, h⟩ := sd_L (sd_V hf hl) _ _ _ _ ⟨hp.l2, hp.consts⟩ ⟨hq.l2, hq.consts⟩ h
  obtain ⟨h6, h⟩ := sd_L sd_Cur _ _ _ _ ⟨hp.l3, hp.curs⟩ ⟨hq.l3, hq.curs⟩ h
  obtain ⟨h7, h⟩ := sd_L sd_Srt _ _ _ _ ⟨hp.l4, hp.sorts⟩ ⟨hq.l4, hq.sorts⟩ h
  obtain ⟨h8, h⟩ := sd_L sd_Tot _ _ _ _ ⟨hp.l5, hp.tots⟩ ⟨hq.l5, hq.tots⟩ h
  obtain ⟨h9, h⟩ := sd_L sd_Ins _ _ _ _ ⟨hp.l6, hp.code⟩ ⟨hq.l6, hq.code⟩ h
  cases p; cases q
  simp only at h1 h2 h3 h4 h5 h6 h7 h8 h9
  subst h1; subst h2; subst h3; subst h4; subst h5; subst h6; subst h7; subst h8; subst h9
  rfl
/-- a number that a letter allows -/
theorem field_ok {p : Prog} (S : Sizes p) {t : Nat} (ht : t < p.code.length) {l n : Int} (h : fieldP p t l n = true) : okN n := by
  obtain ⟨s1, s2, s3, s4, s5, s6, s7⟩ := S
  have b : ∀ hi : Int, hi ≤ 4000 → below n hi = true → okN n := fun hi hh h => by
    unfold below at h
    simp only [Bool.and_eq_true, decide_eq_true_eq] at h
    unfold okN; omega
  unfold fieldP at h
  have c : ∀ (q : Prop) [Decidable q] (x y : Bool), (if q then x else y) = true → (x = true → okN n) → (y = true → okN n) → okN n := fun q _ x y h hx hy => by
    by_cases hq : q
    · rw [if_pos hq] at h; exact hx h
    · rw [if_neg hq] at h; exact hy h
  refine c _ _ _ h (fun h => ?_) (fun h => ?_)
  · first | exact b _ (by omega) h | exact b _ (by omega) (Bool.and_eq_true_iff.1 h).1 | (simp only [Bool.and_eq_true, decide_eq_true_eq] at h; unfold okN; omega)
  refine c _ _ _ h (fun h => ?_) (fun h => ?_)
  · first | exact b _ (by omega) h | exact b _ (by omega) (Bool.and_eq_true_iff.1 h).1 | (simp only [Bool.and_eq_true, decide_eq_true_eq] at h; unfold okN; omega)
  refine c _ _ _ h (fun h => ?_) (fun h => ?_)
  · first | exact b _ (by omega) h | exact b _ (by omega) (Bool.and_eq_true_iff.1 h).1 | (simp only [Bool.and_eq_true, decide_eq_true_eq] at h; unfold okN; omega)
  refine c _ _ _ h (fun h => ?_) (fun h => ?_)
  · first | exact b _ (by omega) h | exact b _ (by omega) (Bool.and_eq_true_iff.1 h).1 | (simp only [Bool.and_eq_true, decide_eq_true_eq] at h; unfold okN; omega)
  refine c _ _ _ h (fun h => ?_) (fun h => ?_)
  · first | exact b _ (by omega) h | exact b _ (by omega) (Bool.and_eq_true_iff.1 h).1 | (simp only [Bool.and_eq_true, decide_eq_true_eq] at h; unfold okN; omega)
  refine c _ _ _ h (fun h => ?_) (fun h => ?_)
  · first | exact b _ (by omega) h | exact b _ (by omega) (Bool.and_eq_true_iff.1 h).1 | (simp only [Bool.and_eq_true, decide_eq_true_eq] at h; unfold okN; omega)
  refine c _ _ _ h (fun h => ?_) (fun h => ?_)
  · first | exact b _ (by omega) h | exact b _ (by omega) (Bool.and_eq_true_iff.1 h).1 | (simp only [Bool.and_eq_true, decide_eq_true_eq] at h; unfold okN; omega)
  refine c _ _ _ h (fun h => ?_) (fun h => ?_)
  · first | exact b _ (by omega) h | exact b _ (by omega) (Bool.and_eq_true_iff.1 h).1 | (simp only [Bool.and_eq_true, decide_eq_true_eq] at h; unfold okN; omega)
  refine c _ _ _ h (fun h => ?_) (fun h => ?_)
  · first | exact b _ (by omega) h | exact b _ (by omega) (Bool.and_eq_true_iff.1 h).1 | (simp only [Bool.and_eq_true, decide_eq_true_eq] at h; unfold okN; omega)
  refine c _ _ _ h (fun h => ?_) (fun h => ?_)
  · first | exact b _ (by omega) h | exact b _ (by omega) (Bool.and_eq_true_iff.1 h).1 | (simp only [Bool.and_eq_true, decide_eq_true_eq] at h; unfold okN; omega)
  refine c _ _ _ h (fun h => ?_) (fun h => ?_)
  · first | exact b _ (by omega) h | exact b _ (by omega) (Bool.and_eq_true_iff.1 h).1 | (simp only [Bool.and_eq_true, decide_eq_true_eq] at h; unfold okN; omega)
  refine c _ _ _ h (fun h => ?_) (fun h => ?_)
  · first | exact b _ (by omega) h | exact b _ (by omega) (Bool.and_eq_true_iff.1 h).1 | (simp only [Bool.and_eq_true, decide_eq_true_eq] at h; unfold okN; omega)
  refine c _ _ _ h (fun h => ?_) (fun h => ?_)
  · first | exact b _ (by omega) h | exact b _ (by omega) (Bool.and_eq_true_iff.1 h).1 | (simp only [Bool.and_eq_true, decide_eq_true_eq] at h; unfold okN; omega)
  refine c _ _ _ h (fun h => ?_) (fun h => ?_)
  · first | exact b _ (by omega) h | exact b _ (by omega) (Bool.and_eq_true_iff.1 h).1 | (simp only [Bool.and_eq_true, decide_eq_true_eq] at h; unfold okN; omega)
  refine c _ _ _ h (fun h => ?_) (fun h => ?_)
  · first | exact b _ (by omega) h | exact b _ (by omega) (Bool.and_eq_true_iff.1 h).1 | (simp only [Bool.and_eq_true, decide_eq_true_eq] at h; unfold okN; omega)
  refine c _ _ _ h (fun h => ?_) (fun h => ?_)
  · first | exact b _ (by omega) h | exact b _ (by omega) (Bool.and_eq_true_iff.1 h).1 | (simp only [Bool.and_eq_true, decide_eq_true_eq] at h; unfold okN; omega)
  refine c _ _ _ h (fun h => ?_) (fun h => ?_)
  · first | exact b _ (by omega) h | exact b _ (by omega) (Bool.and_eq_true_iff.1 h).1 | (simp only [Bool.and_eq_true, decide_eq_true_eq] at h; unfold okN; omega)
  refine c _ _ _ h (fun h => ?_) (fun h => ?_)
  · first | exact b _ (by omega) h | exact b _ (by omega) (Bool.and_eq_true_iff.1 h).1 | (simp only [Bool.and_eq_true, decide_eq_true_eq] at h; unfold okN; omega)
  cases h
theorem Checked.fine {p : Prog} (h : Checked p) (ho : ∀ i ∈ p.code, 0 ≤ i.op ∧ i.op < 256) (hgv : ∀ v ∈ p.consts, good v) : Fine p := by
  have S := h.sizes
  have h1 := h.parts
  simp only [partsP, within, Bool.and_eq_true, decide_eq_true_eq, Bool.not_eq_true', List.any_eq_false] at h1
  obtain ⟨g1, g2, g3, g4, g5, g6, g7, g8, g9, g10, g11, g12, g13⟩ := h1
  refine ⟨⟨by omega, by omega⟩, ⟨by omega, by omega⟩, ⟨by omega, by omega⟩, by omega, fun s hs => ?_, by omega, fun v hv => ?_, by omega, fun c hc => ?_, by omega, fun s hs => ?_, by omega, fun t ht => ?_, by have := h.hi; omega, fun i hi => ?_⟩
  · have := g9 s hs
    simp only [longN, decide_eq_true_eq] at this
    omega
  · have := g10 v hv
    simp only [wrongV, Bool.not_eq_true', Bool.not_eq_false] at this
    exact ⟨this, hgv v hv⟩
  · have := g11 c hc
    simp only [badCur, Bool.or_eq_true, decide_eq_true_eq, not_or] at this
    unfold fCur; omega
  · have := g12 s hs
    simp only [badSrt, within, Bool.or_eq_true, decide_eq_true_eq, not_or, Bool.not_eq_true', Bool.not_eq_false, Bool.and_eq_true] at this
    unfold fSrt okN; omega
  · have := g13 t ht
    unfold fTot
    simp only [badTot, Bool.not_eq_true', decide_eq_false_iff_not, Decidable.not_not] at this
    have hk : knownT (sb t.fn) = true := by
      cases hk : knownT (sb t.fn) with
      | true => rfl
      | false => simp [newT, hk] at this
    simp only [knownT, decide_eq_true_eq] at hk
    rw [← sb_length]
    rcases hk with hk | hk | hk | hk | hk | hk | hk <;> rw [hk] <;> decide
  · obtain ⟨k, hk, rfl⟩ := List.getElem_of_mem hi
    have hi' := h.at_ k hk
    simp only [okAt, Bool.and_eq_true] at hi'
    have hf := hi'.1
    unfold fieldsP fieldsL at hf
    have hop := ho _ hi
    split at hf
    · simp only [Bool.and_eq_true] at hf
      exact ⟨⟨hop.1, by omega⟩, field_ok S hk hf.1, field_ok S hk hf.2.1, field_ok S hk hf.2.2.1, field_ok S hk hf.2.2.2⟩
    · cases hf
end K15
/- Layer 15, plain: sizes of what is written. -/
set_option linter.unusedVariables false
set_option linter.unusedSimpArgs false
namespace K15
open Go.Sx R1
structure Few (p : Prog) : Prop where
  l1 : p.names.length ≤ 200
  names : ∀ s ∈ p.names, s.size ≤ 200
  l2 : p.consts.length ≤ 1000
  l3 : p.curs.length ≤ 12
  curs : ∀ c ∈ p.curs, c.name.size ≤ 200
  l4 : p.sorts.length ≤ 6
  sorts : ∀ s ∈ p.sorts, s.desc.length ≤ 30 ∧ 1 ≤ s.cols ∧ s.cols ≤ 60
  l5 : p.tots.length ≤ 60
  tots : ∀ t ∈ p.tots, t.fn.size ≤ 200
  l6 : p.code.length ≤ 4000
theorem Checked.few {p : Prog} (h : Checked p) : Few p := by
  have h1 := h.parts
  simp only [partsP, within, Bool.and_eq_true, decide_eq_true_eq, Bool.not_eq_true', List.any_eq_false] at h1
  obtain ⟨g1, g2, g3, g4, g5, g6, g7, g8, g9, g10, g11, g12, g13⟩ := h1
  refine ⟨g4, fun s hs => ?_, g5, g6, fun c hc => ?_, g7, fun s hs => ?_, g8, fun t ht => ?_, h.hi⟩
  · have := g9 s hs
    simp only [longN, decide_eq_true_eq] at this
    omega
  · have := g11 c hc
    simp only [badCur, Bool.or_eq_true, decide_eq_true_eq, not_or] at this
    omega
  · have := g12 s hs
    simp only [badSrt, within, Bool.or_eq_true, decide_eq_true_eq, not_or, Bool.not_eq_true', Bool.not_eq_false, Bool.and_eq_true] at this
    omega
  · have := g13 t ht
    simp only [badTot, Bool.not_eq_true', decide_eq_false_iff_not, Decidable.not_not] at this
    have hk : knownT (sb t.fn) = true := by
      cases hk : knownT (sb t.fn) with
      | true => rfl
      | false => simp [newT, hk] at this
    simp only [knownT, decide_eq_true_eq] at hk
    rw [← sb_length]
    rcases hk with hk | hk | hk | hk | hk | hk | hk <;> rw [hk] <;> decide
theorem eI_len {n : Int} (h : okN n) : (eI n).length ≤ 10 := B1.enc_le_ten (by unfold okN at h; omega)
theorem eF_len (b : Bool) : (eF b).length ≤ 10 := eI_len (by unfold okN; split <;> omega)
theorem eB_len {l : List UInt8} (h : l.length < 9223372036854775808) : (eB l).length ≤ l.length + 10 := by
  have := B1.enc_le_ten (m := l.length) (by omega)
  unfold eB; rw [List.length_append]; omega
theorem eS_len {s : ByteArray} (h : s.size ≤ 200) : (eS s).length ≤ 210 := by
  have := eB_len (l := sb s) (by rw [sb_length]; omega)
  rw [sb_length] at this
  unfold eS; omega
theorem flatB {α : Type} {f : α → List UInt8} {M : Nat} : ∀ (xs : List α), (∀ v ∈ xs, (f v).length ≤ M) → (xs.flatMap f).length ≤ xs.length * M
  | [], _ => by simp
  | v :: xs, h => by
    have h1 := flatB xs (fun v hv => h v (List.mem_cons.2 (.inr hv)))
    have h2 := h v (List.mem_cons.2 (.inl rfl))
    rw [List.flatMap_cons, List.length_append, List.length_cons, Nat.add_mul, Nat.one_mul]; omega
theorem takeB {α : Type} {f : α → List UInt8} {M N : Nat} (xs : List α) (j : Nat) (hl : xs.length ≤ N) (h : ∀ v ∈ xs, (f v).length ≤ M) : ((xs.take j).flatMap f).length ≤ N * M := by
  refine Nat.le_trans (flatB (f := f) (M := M) _ (fun v hv => h v (List.mem_of_mem_take hv))) (Nat.mul_le_mul_right _ ?_)
  rw [List.length_take]; omega
theorem flatS {α : Type} {f : α → List UInt8} {xs : List α} {j : Nat} (h : j < xs.length) : (xs.take (j + 1)).flatMap f = (xs.take j).flatMap f ++ f xs[j] := by
  rw [List.take_add_one, List.getElem?_eq_getElem h, Option.toList_some, List.flatMap_append]; simp only [List.flatMap_cons, List.flatMap_nil, List.append_nil]
theorem eCur_len {c : Cur} (h : c.name.size ≤ 200) : (eCur c).length ≤ 230 := by
  have h1 := eS_len h
  have h2 := eF_len c.ix
  have h3 := eF_len c.wr
  unfold eCur; simp only [List.length_append]; omega
theorem eSrt_len {s : Srt} (h : s.desc.length ≤ 30 ∧ 1 ≤ s.cols ∧ s.cols ≤ 60) : (eSrt s).length ≤ 330 := by
  have h1 := flatB (f := eF) (M := 10) s.desc (fun v _ => eF_len v)
  have h2 := eI_len (n := (s.desc.length : Int)) (by unfold okN; omega)
  have h3 := eI_len (n := s.cols) (by unfold okN; omega)
  have h4 := eF_len s.dist
  unfold eSrt eL; simp only [List.length_append]; omega
theorem eTot_len {t : Tot} (h : t.fn.size ≤ 200) : (eTot t).length ≤ 220 := by
  have h1 := eS_len h
  have h3 := eF_len t.dist
  unfold eTot; simp only [List.length_append]; omega
theorem eIns_len {i : Ins} (h : fIns i) : (eIns i).length ≤ 50 := by
  have h1 := eI_len h.1
  have h2 := eI_len h.2.1
  have h3 := eI_len h.2.2.1
  have h4 := eI_len h.2.2.2.1
  have h5 := eI_len h.2.2.2.2
  unfold eIns; simp only [List.length_append]; omega
/-- what Bytes tells -/
def bytesR (f : V → List UInt8) (p : Prog) : List UInt8 × Int := if checkP p = false then ([], 140) else if 1048576 < (bytesP f p).length then ([], 3) else (bytesP f p, 0)
end K15
