/- Part 8 of the texts of this claim: the engine, contracts, plain laws. -/
import Derived.Test.YthfagbfllheneaaProg
import Derived.Test.YthfagbfllheneaaZCNested5P1
import Derived.Test.YthfagbfllheneaaZCNested5P7
import Derived.Test.YthfagbfllheneaaZCNested5P6
import Derived.Test.YthfagbfllheneaaZCNested5P2
/- The preconditions of Go functions, printed by a program of this workplace (nests.py); each is proved to be the engine's own. -/
set_option linter.unusedVariables false
set_option maxRecDepth 100000
namespace Go.Proofs.Ythfagbfllheneaa
open Go Go.Sx
noncomputable def cardindexlaw05_UndoFree.W : Option Addr → Nat → Nat → World → (Value → World → Prop) → Prop := fun (ops_A : Option Addr) (ops_n ops_c : Nat) (w : World) (K : Value → World
 → Prop) => CallsV Try.prog (15 : Nat) #[Value.int IntKind.i64 (4 : Int), Value.int IntKind.i64 (1000 : Int)] w fun (v : Value) (w' : World) => ∃ (x : Option Addr),
 ∃ (x_1 : Int), v = Value.tuple #[Value.pointer x, Value.int IntKind.i64 x_1] ∧ CallsV Try.prog (15 : Nat) #[Value.int IntKind.i64 (4 : Int), Value.int
 IntKind.i64 (1000 : Int)] w' fun (v : Value) (w' : World) => ∃ (x_2 : Option Addr), ∃ (x_3 : Int), v = Value.tuple #[Value.pointer x_2, Value.int IntKind.i64 x_3] ∧ bif
 !Decidable.decide (x_1 = (0 : Int)) then K (Value.bool Bool.false) w' else bif !Decidable.decide (x_3 = (0 : Int)) then K (Value.bool Bool.false) w' else ∃ (I : Int → World → Prop), ∃ (μ : Int
 → World → Nat), I (0 : Int) w' ∧ ∀ (x_4 : Int) (w : World), I x_4 w → bif Decidable.decide (x_4 < (↑ops_n : Int)) then bif Decidable.decide (x_4 < (60 : Int)) then ∃ (ad : Addr), ops_A =
 Option.some ad ∧ ((0 : Int) ≤ x_4 ∧ x_4 < (↑ops_n : Int)) ∧ ∃ (x_5 : Int), World.cell? w (Addr.add (Addr.add ad (Int.toNat x_4 * (5 : Nat))) (0 : Nat)) = Option.some (Value.int
 IntKind.i64 x_5) ∧ ∃ (x_6 : Int), World.cell? w (Addr.add (Addr.add ad (Int.toNat x_4 * (5 : Nat))) (1 : Nat)) = Option.some (Value.int IntKind.i64 x_6) ∧ ∃ (x_7 : Int),
 World.cell? w (Addr.add (Addr.add ad (Int.toNat x_4 * (5 : Nat))) (2 : Nat)) = Option.some (Value.int IntKind.i64 x_7) ∧ ∃ (x_8 : Option Addr), ∃ (x_9 : Nat), ∃ (x_10 : Nat),
 World.cell? w (Addr.add (Addr.add ad (Int.toNat x_4 * (5 : Nat))) (3 : Nat)) = Option.some (Value.slice x_8 x_9 x_10) ∧ ∃ (x_11 : Option Addr), ∃ (x_12 : Nat), ∃ (x_13 : Nat),
 World.cell? w (Addr.add (Addr.add ad (Int.toNat x_4 * (5 : Nat))) (4 : Nat)) = Option.some (Value.slice x_11 x_12 x_13) ∧ CallsV Try.prog (16 : Nat) #[Value.agg
 #[Value.int IntKind.i64 x_5, Value.int IntKind.i64 x_6, Value.int IntKind.i64 x_7, Value.slice x_8 x_9 x_10, Value.slice x_11 x_12 x_13]] w fun (v : Value) (w' : World) =>
 ∃ (x_14 : Bool), v = Value.bool x_14 ∧ bif !x_14 then I (IntKind.wrap IntKind.i64 (x_4 + (1 : Int))) w' ∧ μ (IntKind.wrap IntKind.i64 (x_4 + (1 : Int))) w' < μ x_4 w else ∃ (ad :
 Addr), ops_A = Option.some ad ∧ ((0 : Int) ≤ x_4 ∧ x_4 < (↑ops_n : Int)) ∧ ∃ (x_15 : Int), World.cell? w' (Addr.add (Addr.add ad (Int.toNat x_4 * (5 : Nat))) (0 : Nat)) = Option.some
 (Value.int IntKind.i64 x_15) ∧ ∃ (x_16 : Int), World.cell? w' (Addr.add (Addr.add ad (Int.toNat x_4 * (5 : Nat))) (1 : Nat)) = Option.some (Value.int IntKind.i64 x_16) ∧ ∃ (x_17 :
 Int), World.cell? w' (Addr.add (Addr.add ad (Int.toNat x_4 * (5 : Nat))) (2 : Nat)) = Option.some (Value.int IntKind.i64 x_17) ∧ ∃ (x_18 : Option Addr), ∃ (x_19 : Nat), ∃ (x_20 :
 Nat), World.cell? w' (Addr.add (Addr.add ad (Int.toNat x_4 * (5 : Nat))) (3 : Nat)) = Option.some (Value.slice x_18 x_19 x_20) ∧ ∃ (x_21 : Option Addr), ∃ (x_22 : Nat), ∃ (x_23 : Nat),
 World.cell? w' (Addr.add (Addr.add ad (Int.toNat x_4 * (5 : Nat))) (4 : Nat)) = Option.some (Value.slice x_21 x_22 x_23) ∧ CallsV Try.prog (17 : Nat) #[Value.pointer x,
 Value.agg #[Value.int IntKind.i64 x_15, Value.int IntKind.i64 x_16, Value.int IntKind.i64 x_17, Value.slice x_18 x_19 x_20, Value.slice x_21 x_22 x_23]] w' fun (v : Value)
 (w' : World) => v = Value.tuple #[] ∧ CallsV Try.prog (18 : Nat) #[Value.pointer x_2] w' fun (v : Value) (w' : World) => ∃ (x_24 : Int), ∃ (x_25 : Int), v =
 Value.tuple #[Value.int IntKind.i64 x_24, Value.int IntKind.i64 x_25] ∧ ∃ (ad : Addr), ops_A = Option.some ad ∧ ((0 : Int) ≤ x_4 ∧ x_4 < (↑ops_n : Int)) ∧ ∃ (x_26 : Int),
 World.cell? w' (Addr.add (Addr.add ad (Int.toNat x_4 * (5 : Nat))) (0 : Nat)) = Option.some (Value.int IntKind.i64 x_26) ∧ ∃ (x_27 : Int), World.cell? w' (Addr.add (Addr.add ad
 (Int.toNat x_4 * (5 : Nat))) (1 : Nat)) = Option.some (Value.int IntKind.i64 x_27) ∧ ∃ (x_28 : Int), World.cell? w' (Addr.add (Addr.add ad (Int.toNat x_4 * (5 : Nat))) (2 : Nat)) =
 Option.some (Value.int IntKind.i64 x_28) ∧ ∃ (x_29 : Option Addr), ∃ (x_30 : Nat), ∃ (x_31 : Nat), World.cell? w' (Addr.add (Addr.add ad (Int.toNat x_4 * (5 : Nat))) (3 : Nat)) =
 Option.some (Value.slice x_29 x_30 x_31) ∧ ∃ (x_32 : Option Addr), ∃ (x_33 : Nat), ∃ (x_34 : Nat), World.cell? w' (Addr.add (Addr.add ad (Int.toNat x_4 * (5 : Nat))) (4 : Nat)) =
 Option.some (Value.slice x_32 x_33 x_34) ∧ CallsV Try.prog (17 : Nat) #[Value.pointer x_2, Value.agg #[Value.int IntKind.i64 x_26, Value.int IntKind.i64 x_27,
 Value.int IntKind.i64 x_28, Value.slice x_29 x_30 x_31, Value.slice x_32 x_33 x_34]] w' fun (v : Value) (w' : World) => v = Value.tuple #[] ∧ bif !Decidable.decide (x_25 = (0 :
 Int)) then K (Value.bool Bool.false) w' else ∃ (J : World → Prop), (∀ (w_1 : World), J w_1 → CallsV Try.prog (22 : Nat) #[Value.pointer x] w_1 fun (v : Value) (w' :
 World) => ∃ (x : Option Addr), ∃ (x_35 : Nat), ∃ (x_36 : Nat), ∃ (x_37 : Option Addr), ∃ (x_38 : Nat), ∃ (x_39 : Nat), ∃ (x_40 : Int), ∃ (x_41 : Int), v = Value.agg #[Value.slice x x_35
 x_36, Value.slice x_37 x_38 x_39, Value.int IntKind.i64 x_40, Value.int IntKind.i64 x_41] ∧ CallsV Try.prog (22 : Nat) #[Value.pointer x_2] w' fun (v : Value) (w' :
 World) => ∃ (x_42 : Option Addr), ∃ (x_43 : Nat), ∃ (x_44 : Nat), ∃ (x_45 : Option Addr), ∃ (x_46 : Nat), ∃ (x_47 : Nat), ∃ (x_48 : Int), ∃ (x_49 : Int), v = Value.agg #[Value.slice x_42
 x_43 x_44, Value.slice x_45 x_46 x_47, Value.int IntKind.i64 x_48, Value.int IntKind.i64 x_49] ∧ CallsV Try.prog (21 : Nat) #[Value.agg #[Value.slice x x_35 x_36,
 Value.slice x_37 x_38 x_39, Value.int IntKind.i64 x_40, Value.int IntKind.i64 x_41], Value.agg #[Value.slice x_42 x_43 x_44, Value.slice x_45 x_46 x_47, Value.int
 IntKind.i64 x_48, Value.int IntKind.i64 x_49]] w' fun (v : Value) (w' : World) => ∃ (x : Bool), v = Value.bool x ∧ bif !x then K (Value.bool Bool.false) w' else I (IntKind.wrap
 IntKind.i64 (x_4 + (1 : Int))) w' ∧ μ (IntKind.wrap IntKind.i64 (x_4 + (1 : Int))) w' < μ x_4 w) ∧ ∃ (ad : Addr), ops_A = Option.some ad ∧ ((0 : Int) ≤ x_4 ∧ x_4 < (↑ops_n : Int)) ∧ ∃ (x :
 Int), World.cell? w' (Addr.add (Addr.add ad (Int.toNat x_4 * (5 : Nat))) (2 : Nat)) = Option.some (Value.int IntKind.i64 x) ∧ (3 : Int) ≠ (0 : Int) ∧ bif !Decidable.decide (Int.tmod x (3
 : Int) = (0 : Int)) then ∃ (ad : Addr), ops_A = Option.some ad ∧ ((0 : Int) ≤ x_4 ∧ x_4 < (↑ops_n : Int)) ∧ ∃ (x : Int), World.cell? w' (Addr.add (Addr.add ad (Int.toNat x_4 * (5 : Nat)))
 (2 : Nat)) = Option.some (Value.int IntKind.i64 x) ∧ CallsV Try.prog (20 : Nat) #[Value.int IntKind.i64 x, Value.int IntKind.i64 x_24] w' fun (v : Value) (w' :
 World) => ∃ (x : Int), v = Value.int IntKind.i64 x ∧ CallsV Try.prog (19 : Nat) #[Value.pointer x_2, Value.int IntKind.i64 (IntKind.wrap IntKind.i64 ((1 : Int) +
 x))] w' fun (v : Value) (w' : World) => ∃ (x : Int), v = Value.int IntKind.i64 x ∧ bif !Decidable.decide (x = (0 : Int)) then K (Value.bool Bool.false) w' else J w' else J w' else
 CallsV Try.prog (23 : Nat) #[] w fun (v : Value) (w' : World) => ∃ (x : Bool), v = Value.bool x ∧ K (Value.bool x) w' else CallsV Try.prog (23 : Nat) #[] w
 fun (v : Value) (w' : World) => ∃ (x : Bool), v = Value.bool x ∧ K (Value.bool x) w'
theorem cardindexlaw05_UndoFree.eq (ops_A : Option Addr) (ops_n : Nat) (ops_c : Nat) (w : World) (K : Value → World → Prop) : cardindexlaw05_UndoFree.W ops_A ops_n ops_c w K = fnW Try.prog Try.f3 (.named (.seq .auto (.seq .auto (.seq .auto (.seq .auto (.seq (.seq .auto (.block (.loop [(7, .one (.int .i64))] (.seq .auto (.seq (.block (.seq .auto (.seq .auto (.seq .auto (.seq .auto (.seq .auto (.join [] .auto .auto))))))) .auto))))) .auto)))))) [.slice ops_A ops_n ops_c] w K := by kernel_rfl
theorem cardindexlaw05_UndoFree.calls (ok : Okay Try.prog) {ops_A : Option Addr} {ops_n : Nat} {ops_c : Nat} {w : World} {K : Value → World → Prop} (h : cardindexlaw05_UndoFree.W ops_A ops_n ops_c w K) : CallsV Try.prog 3 #[.slice ops_A ops_n ops_c] w K :=
  fnW_calls ok Try.func3 (an := (.named (.seq .auto (.seq .auto (.seq .auto (.seq .auto (.seq (.seq .auto (.block (.loop [(7, .one (.int .i64))] (.seq .auto (.seq (.block (.seq .auto (.seq .auto (.seq .auto (.seq .auto (.seq .auto (.join [] .auto .auto))))))) .auto))))) .auto))))))) (args := [.slice ops_A ops_n ops_c]) (by rw [← cardindexlaw05_UndoFree.eq]; exact h)
noncomputable def cardindexlaw05_UndoNested.W : Option Addr → Nat → Nat → Int → World → (Value → World → Prop) → Prop := fun (ops_A : Option Addr) (ops_n ops_c : Nat) (to : Int) (w : World) (K :
 Value → World → Prop) => CallsV Try.prog (15 : Nat) #[Value.int IntKind.i64 (4 : Int), Value.int IntKind.i64 (1000 : Int)] w fun (v : Value) (w' : World) => ∃ (x
 : Option Addr), ∃ (x_1 : Int), v = Value.tuple #[Value.pointer x, Value.int IntKind.i64 x_1] ∧ CallsV Try.prog (15 : Nat) #[Value.int IntKind.i64 (4 : Int),
 Value.int IntKind.i64 (1000 : Int)] w' fun (v : Value) (w' : World) => ∃ (x_2 : Option Addr), ∃ (x_3 : Int), v = Value.tuple #[Value.pointer x_2, Value.int IntKind.i64 x_3] ∧
 bif !Decidable.decide (x_1 = (0 : Int)) then K (Value.bool Bool.false) w' else bif !Decidable.decide (x_3 = (0 : Int)) then K (Value.bool Bool.false) w' else ∃ (J : World → Prop), (∀ (w :
 World), J w → CallsV Try.prog (24 : Nat) #[Value.pointer x] w fun (v : Value) (w' : World) => ∃ (x_4 : Int), v = Value.int IntKind.i64 x_4 ∧ bif Decidable.decide (x_4
 = (0 : Int)) then CallsV Try.prog (23 : Nat) #[] w' fun (v : Value) (w' : World) => ∃ (x : Bool), v = Value.bool x ∧ K (Value.bool x) w' else CallsV Try.prog
 (24 : Nat) #[Value.pointer x] w' fun (v : Value) (w' : World) => ∃ (x_5 : Int), v = Value.int IntKind.i64 x_5 ∧ CallsV Try.prog (20 : Nat) #[Value.int IntKind.i64
 to, Value.int IntKind.i64 x_5] w' fun (v : Value) (w' : World) => ∃ (x_6 : Int), v = Value.int IntKind.i64 x_6 ∧ CallsV Try.prog (25 : Nat) #[Value.pointer x,
 Value.int IntKind.i64 (IntKind.wrap IntKind.i64 ((1 : Int) + x_6))] w' fun (v : Value) (w' : World) => ∃ (x_7 : Int), v = Value.int IntKind.i64 x_7 ∧ bif !Decidable.decide (x_7
 = (0 : Int)) then K (Value.bool Bool.false) w' else ∃ (I : World → Prop), ∃ (μ : World → Nat), I w' ∧ ∀ (w : World), I w → CallsV Try.prog (24 : Nat) #[Value.pointer x_2]
 w fun (v : Value) (w' : World) => ∃ (x_8 : Int), v = Value.int IntKind.i64 x_8 ∧ bif Decidable.decide (IntKind.wrap IntKind.i64 ((1 : Int) + x_6) ≤ x_8) then CallsV
 Try.prog (24 : Nat) #[Value.pointer x_2] w' fun (v : Value) (w' : World) => ∃ (x : Int), v = Value.int IntKind.i64 x ∧ CallsV Try.prog (25 : Nat)
 #[Value.pointer x_2, Value.int IntKind.i64 x] w' fun (v : Value) (w' : World) => ∃ (x_9 : Int), v = Value.int IntKind.i64 x_9 ∧ bif !Decidable.decide (x_9 = (0 : Int)) then K
 (Value.bool Bool.false) w' else CallsV Try.prog (24 : Nat) #[Value.pointer x_2] w' fun (v : Value) (w' : World) => ∃ (x_10 : Int), v = Value.int IntKind.i64 x_10 ∧ bif
 !Decidable.decide (x_10 = IntKind.wrap IntKind.i64 (x - (1 : Int))) then K (Value.bool Bool.false) w' else I w' ∧ μ w' < μ w else CallsV Try.prog (22 : Nat) #[Value.pointer
 x] w' fun (v : Value) (w' : World) => ∃ (x_9 : Option Addr), ∃ (x_10 : Nat), ∃ (x_11 : Nat), ∃ (x_12 : Option Addr), ∃ (x_13 : Nat), ∃ (x_14 : Nat), ∃ (x_15 : Int), ∃ (x_16 : Int), v =
 Value.agg #[Value.slice x_9 x_10 x_11, Value.slice x_12 x_13 x_14, Value.int IntKind.i64 x_15, Value.int IntKind.i64 x_16] ∧ CallsV Try.prog (22 : Nat)
 #[Value.pointer x_2] w' fun (v : Value) (w' : World) => ∃ (x_17 : Option Addr), ∃ (x_18 : Nat), ∃ (x_19 : Nat), ∃ (x_20 : Option Addr), ∃ (x_21 : Nat), ∃ (x_22 : Nat), ∃ (x_23 : Int), ∃
 (x_24 : Int), v = Value.agg #[Value.slice x_17 x_18 x_19, Value.slice x_20 x_21 x_22, Value.int IntKind.i64 x_23, Value.int IntKind.i64 x_24] ∧ CallsV Try.prog (21
 : Nat) #[Value.agg #[Value.slice x_9 x_10 x_11, Value.slice x_12 x_13 x_14, Value.int IntKind.i64 x_15, Value.int IntKind.i64 x_16], Value.agg #[Value.slice x_17 x_18 x_19,
 Value.slice x_20 x_21 x_22, Value.int IntKind.i64 x_23, Value.int IntKind.i64 x_24]] w' fun (v : Value) (w' : World) => ∃ (x_25 : Bool), v = Value.bool x_25 ∧ bif x_25 then
 CallsV Try.prog (24 : Nat) #[Value.pointer x] w' fun (v : Value) (w' : World) => ∃ (x : Int), v = Value.int IntKind.i64 x ∧ bif Decidable.decide (x = IntKind.wrap
 IntKind.i64 (IntKind.wrap IntKind.i64 ((1 : Int) + x_6) - (1 : Int))) then CallsV Try.prog (23 : Nat) #[] w' fun (v : Value) (w' : World) => ∃ (x : Bool), v =
 Value.bool x ∧ K (Value.bool x) w' else K (Value.bool Bool.false) w' else K (Value.bool Bool.false) w') ∧ ∃ (I : Int → World → Prop), ∃ (μ : Int → World → Nat), I (0 : Int) w' ∧ ∀
 (x_4 : Int) (w : World), I x_4 w → bif Decidable.decide (x_4 < (↑ops_n : Int)) then bif Decidable.decide (x_4 < (60 : Int)) then ∃ (J : World → Prop), (∀ (w_1 : World), J w_1 → ∃ (ad :
 Addr), ops_A = Option.some ad ∧ ((0 : Int) ≤ x_4 ∧ x_4 < (↑ops_n : Int)) ∧ ∃ (x_5 : Int), World.cell? w_1 (Addr.add (Addr.add ad (Int.toNat x_4 * (5 : Nat))) (0 : Nat)) = Option.some
 (Value.int IntKind.i64 x_5) ∧ ∃ (x_6 : Int), World.cell? w_1 (Addr.add (Addr.add ad (Int.toNat x_4 * (5 : Nat))) (1 : Nat)) = Option.some (Value.int IntKind.i64 x_6) ∧ ∃ (x_7 :
 Int), World.cell? w_1 (Addr.add (Addr.add ad (Int.toNat x_4 * (5 : Nat))) (2 : Nat)) = Option.some (Value.int IntKind.i64 x_7) ∧ ∃ (x_8 : Option Addr), ∃ (x_9 : Nat), ∃ (x_10 : Nat),
 World.cell? w_1 (Addr.add (Addr.add ad (Int.toNat x_4 * (5 : Nat))) (3 : Nat)) = Option.some (Value.slice x_8 x_9 x_10) ∧ ∃ (x_11 : Option Addr), ∃ (x_12 : Nat), ∃ (x_13 : Nat),
 World.cell? w_1 (Addr.add (Addr.add ad (Int.toNat x_4 * (5 : Nat))) (4 : Nat)) = Option.some (Value.slice x_11 x_12 x_13) ∧ CallsV Try.prog (16 : Nat) #[Value.agg
 #[Value.int IntKind.i64 x_5, Value.int IntKind.i64 x_6, Value.int IntKind.i64 x_7, Value.slice x_8 x_9 x_10, Value.slice x_11 x_12 x_13]] w_1 fun (v : Value) (w' : World)
 => ∃ (x_14 : Bool), v = Value.bool x_14 ∧ bif x_14 then ∃ (ad : Addr), ops_A = Option.some ad ∧ ((0 : Int) ≤ x_4 ∧ x_4 < (↑ops_n : Int)) ∧ ∃ (x_15 : Int), World.cell? w' (Addr.add
 (Addr.add ad (Int.toNat x_4 * (5 : Nat))) (0 : Nat)) = Option.some (Value.int IntKind.i64 x_15) ∧ ∃ (x_16 : Int), World.cell? w' (Addr.add (Addr.add ad (Int.toNat x_4 * (5 : Nat))) (1
 : Nat)) = Option.some (Value.int IntKind.i64 x_16) ∧ ∃ (x_17 : Int), World.cell? w' (Addr.add (Addr.add ad (Int.toNat x_4 * (5 : Nat))) (2 : Nat)) = Option.some (Value.int
 IntKind.i64 x_17) ∧ ∃ (x_18 : Option Addr), ∃ (x_19 : Nat), ∃ (x_20 : Nat), World.cell? w' (Addr.add (Addr.add ad (Int.toNat x_4 * (5 : Nat))) (3 : Nat)) = Option.some (Value.slice
 x_18 x_19 x_20) ∧ ∃ (x_21 : Option Addr), ∃ (x_22 : Nat), ∃ (x_23 : Nat), World.cell? w' (Addr.add (Addr.add ad (Int.toNat x_4 * (5 : Nat))) (4 : Nat)) = Option.some (Value.slice x_21
 x_22 x_23) ∧ CallsV Try.prog (17 : Nat) #[Value.pointer x, Value.agg #[Value.int IntKind.i64 x_15, Value.int IntKind.i64 x_16, Value.int IntKind.i64 x_17,
 Value.slice x_18 x_19 x_20, Value.slice x_21 x_22 x_23]] w' fun (v : Value) (w' : World) => v = Value.tuple #[] ∧ ∃ (ad : Addr), ops_A = Option.some ad ∧ ((0 : Int) ≤ x_4 ∧ x_4 <
 (↑ops_n : Int)) ∧ ∃ (x : Int), World.cell? w' (Addr.add (Addr.add ad (Int.toNat x_4 * (5 : Nat))) (0 : Nat)) = Option.some (Value.int IntKind.i64 x) ∧ ∃ (x_24 : Int), World.cell? w'
 (Addr.add (Addr.add ad (Int.toNat x_4 * (5 : Nat))) (1 : Nat)) = Option.some (Value.int IntKind.i64 x_24) ∧ ∃ (x_25 : Int), World.cell? w' (Addr.add (Addr.add ad (Int.toNat x_4 *
 (5 : Nat))) (2 : Nat)) = Option.some (Value.int IntKind.i64 x_25) ∧ ∃ (x_26 : Option Addr), ∃ (x_27 : Nat), ∃ (x_28 : Nat), World.cell? w' (Addr.add (Addr.add ad (Int.toNat x_4 * (5 :
 Nat))) (3 : Nat)) = Option.some (Value.slice x_26 x_27 x_28) ∧ ∃ (x_29 : Option Addr), ∃ (x_30 : Nat), ∃ (x_31 : Nat), World.cell? w' (Addr.add (Addr.add ad (Int.toNat x_4 * (5 : Nat)))
 (4 : Nat)) = Option.some (Value.slice x_29 x_30 x_31) ∧ CallsV Try.prog (17 : Nat) #[Value.pointer x_2, Value.agg #[Value.int IntKind.i64 x, Value.int IntKind.i64
 x_24, Value.int IntKind.i64 x_25, Value.slice x_26 x_27 x_28, Value.slice x_29 x_30 x_31]] w' fun (v : Value) (w' : World) => v = Value.tuple #[] ∧ I (IntKind.wrap
 IntKind.i64 (x_4 + (1 : Int))) w' ∧ μ (IntKind.wrap IntKind.i64 (x_4 + (1 : Int))) w' < μ x_4 w else I (IntKind.wrap IntKind.i64 (x_4 + (1 : Int))) w' ∧ μ (IntKind.wrap IntKind.i64
 (x_4 + (1 : Int))) w' < μ x_4 w) ∧ (3 : Int) ≠ (0 : Int) ∧ bif Decidable.decide (Int.tmod x_4 (3 : Int) = (0 : Int)) then CallsV Try.prog (18 : Nat) #[Value.pointer x] w fun (v :
 Value) (w' : World) => ∃ (x : Int), ∃ (x_5 : Int), v = Value.tuple #[Value.int IntKind.i64 x, Value.int IntKind.i64 x_5] ∧ CallsV Try.prog (18 : Nat)
 #[Value.pointer x_2] w' fun (v : Value) (w' : World) => ∃ (x : Int), ∃ (x_6 : Int), v = Value.tuple #[Value.int IntKind.i64 x, Value.int IntKind.i64 x_6] ∧ J w' else J w else J
 w else J w
theorem cardindexlaw05_UndoNested.eq (ops_A : Option Addr) (ops_n : Nat) (ops_c : Nat) (to : Int) (w : World) (K : Value → World → Prop) : cardindexlaw05_UndoNested.W ops_A ops_n ops_c to w K = fnW Try.prog Try.f4 (.named (.seq .auto (.seq .auto (.seq .auto (.seq .auto (.join [] (.seq .auto (.block (.loop [(9, .one (.int .i64))] (.seq .auto (.seq (.block (.join [] .auto .auto)) .auto))))) (.seq .auto (.seq .auto (.seq .auto (.seq (.block (.loop [] .auto)) .auto)))))))))) [.slice ops_A ops_n ops_c, .int .i64 to] w K := by kernel_rfl
theorem cardindexlaw05_UndoNested.calls (ok : Okay Try.prog) {ops_A : Option Addr} {ops_n : Nat} {ops_c : Nat} {to : Int} {w : World} {K : Value → World → Prop} (h : cardindexlaw05_UndoNested.W ops_A ops_n ops_c to w K) : CallsV Try.prog 4 #[.slice ops_A ops_n ops_c, .int .i64 to] w K :=
  fnW_calls ok Try.func4 (an := (.named (.seq .auto (.seq .auto (.seq .auto (.seq .auto (.join [] (.seq .auto (.block (.loop [(9, .one (.int .i64))] (.seq .auto (.seq (.block (.join [] .auto .auto)) .auto))))) (.seq .auto (.seq .auto (.seq .auto (.seq (.block (.loop [] .auto)) .auto))))))))))) (args := [.slice ops_A ops_n ops_c, .int .i64 to]) (by rw [← cardindexlaw05_UndoNested.eq]; exact h)
noncomputable def cardindexlaw05_UndoAgain.W : Option Addr → Nat → Nat → Option Addr → Nat → Nat → World → (Value → World → Prop) → Prop := fun (ahead_A : Option Addr) (ahead_n ahead_c : Nat) (ops_A
 : Option Addr) (ops_n ops_c : Nat) (w : World) (K : Value → World → Prop) => CallsV Try.prog (15 : Nat) #[Value.int IntKind.i64 (4 : Int), Value.int IntKind.i64
 (200 : Int)] w fun (v : Value) (w' : World) => ∃ (x : Option Addr), ∃ (x_1 : Int), v = Value.tuple #[Value.pointer x, Value.int IntKind.i64 x_1] ∧ bif !Decidable.decide (x_1 = (0 :
 Int)) then K (Value.bool Bool.false) w' else ∃ (J : World → Prop), (∀ (w : World), J w → ∀ (g : Nat) (w' : World), Fresh w g w' [Value.slice Option.none (0 : Nat) (0 : Nat),
 Value.slice Option.none (0 : Nat) (0 : Nat), Value.int IntKind.i64 (0 : Int), Value.int IntKind.i64 (0 : Int), Value.slice Option.none (0 : Nat) (0 : Nat), Value.slice Option.none
 (0 : Nat) (0 : Nat), Value.int IntKind.i64 (0 : Int), Value.int IntKind.i64 (0 : Int)] (46 : Nat) → ∃ (I : Int → World → Prop), ∃ (μ : Int → World → Nat), I (0 : Int) w' ∧ ∀ (x_2 :
 Int) (w : World), I x_2 w → bif Decidable.decide (x_2 < (2 : Int)) then CallsV Try.prog (18 : Nat) #[Value.pointer x] w fun (v : Value) (w' : World) => ∃ (x_3 : Int), ∃ (x_4
 : Int), v = Value.tuple #[Value.int IntKind.i64 x_3, Value.int IntKind.i64 x_4] ∧ bif !Decidable.decide (x_4 = (0 : Int)) then K (Value.bool Bool.false) w' else bif !Decidable.decide
 (x_3 = (1 : Int)) then K (Value.bool Bool.false) w' else ∃ (J : World → Prop), (∀ (w_1 : World), J w_1 → CallsV Try.prog (22 : Nat) #[Value.pointer x] w_1 fun (v : Value)
 (w' : World) => ∃ (x_5 : Option Addr), ∃ (x_6 : Nat), ∃ (x_7 : Nat), ∃ (x_8 : Option Addr), ∃ (x_9 : Nat), ∃ (x_10 : Nat), ∃ (x_11 : Int), ∃ (x_12 : Int), v = Value.agg #[Value.slice x_5
 x_6 x_7, Value.slice x_8 x_9 x_10, Value.int IntKind.i64 x_11, Value.int IntKind.i64 x_12] ∧ ((0 : Int) ≤ x_2 ∧ x_2 < (↑(2 : Nat) : Int)) ∧ stOK (Addr.add (Addr.mk g (0 :
 Nat) Option.none) (Int.toNat x_2 * (4 : Nat))) (0 : Nat) [Value.slice x_5 x_6 x_7, Value.slice x_8 x_9 x_10, Value.int IntKind.i64 x_11, Value.int IntKind.i64 x_12] w' ∧ ∀ (w'_1 :
 World), w'_1 = setAll (Addr.add (Addr.mk g (0 : Nat) Option.none) (Int.toNat x_2 * (4 : Nat))) (0 : Nat) [Value.slice x_5 x_6 x_7, Value.slice x_8 x_9 x_10, Value.int
 IntKind.i64 x_11, Value.int IntKind.i64 x_12] w' → CallsV Try.prog (25 : Nat) #[Value.pointer x, Value.int IntKind.i64 (1 : Int)] w'_1 fun (v : Value) (w' :
 World) => ∃ (x : Int), v = Value.int IntKind.i64 x ∧ bif !Decidable.decide (x = (0 : Int)) then K (Value.bool Bool.false) w' else I (IntKind.wrap IntKind.i64 (x_2 + (1 : Int))) w' ∧ μ
 (IntKind.wrap IntKind.i64 (x_2 + (1 : Int))) w' < μ x_2 w) ∧ ∃ (I : Int → World → Prop), ∃ (μ : Int → World → Nat), I (0 : Int) w' ∧ ∀ (x_5 : Int) (w : World), I x_5 w → bif
 Decidable.decide (x_5 < (↑ops_n : Int)) then bif Decidable.decide (x_5 < (40 : Int)) then ∃ (ad : Addr), ops_A = Option.some ad ∧ ((0 : Int) ≤ x_5 ∧ x_5 < (↑ops_n : Int)) ∧ ∃ (x_6 : Int),
 World.cell? w (Addr.add (Addr.add ad (Int.toNat x_5 * (5 : Nat))) (0 : Nat)) = Option.some (Value.int IntKind.i64 x_6) ∧ ∃ (x_7 : Int), World.cell? w (Addr.add (Addr.add ad
 (Int.toNat x_5 * (5 : Nat))) (1 : Nat)) = Option.some (Value.int IntKind.i64 x_7) ∧ ∃ (x_8 : Int), World.cell? w (Addr.add (Addr.add ad (Int.toNat x_5 * (5 : Nat))) (2 : Nat)) =
 Option.some (Value.int IntKind.i64 x_8) ∧ ∃ (x_9 : Option Addr), ∃ (x_10 : Nat), ∃ (x_11 : Nat), World.cell? w (Addr.add (Addr.add ad (Int.toNat x_5 * (5 : Nat))) (3 : Nat)) =
 Option.some (Value.slice x_9 x_10 x_11) ∧ ∃ (x_12 : Option Addr), ∃ (x_13 : Nat), ∃ (x_14 : Nat), World.cell? w (Addr.add (Addr.add ad (Int.toNat x_5 * (5 : Nat))) (4 : Nat)) =
 Option.some (Value.slice x_12 x_13 x_14) ∧ CallsV Try.prog (16 : Nat) #[Value.agg #[Value.int IntKind.i64 x_6, Value.int IntKind.i64 x_7, Value.int IntKind.i64
 x_8, Value.slice x_9 x_10 x_11, Value.slice x_12 x_13 x_14]] w fun (v : Value) (w' : World) => ∃ (x_15 : Bool), v = Value.bool x_15 ∧ bif x_15 then ∃ (ad : Addr), ops_A = Option.some
 ad ∧ ((0 : Int) ≤ x_5 ∧ x_5 < (↑ops_n : Int)) ∧ ∃ (x_16 : Int), World.cell? w' (Addr.add (Addr.add ad (Int.toNat x_5 * (5 : Nat))) (0 : Nat)) = Option.some (Value.int IntKind.i64 x_16) ∧
 ∃ (x_17 : Int), World.cell? w' (Addr.add (Addr.add ad (Int.toNat x_5 * (5 : Nat))) (1 : Nat)) = Option.some (Value.int IntKind.i64 x_17) ∧ ∃ (x_18 : Int), World.cell? w' (Addr.add
 (Addr.add ad (Int.toNat x_5 * (5 : Nat))) (2 : Nat)) = Option.some (Value.int IntKind.i64 x_18) ∧ ∃ (x_19 : Option Addr), ∃ (x_20 : Nat), ∃ (x_21 : Nat), World.cell? w' (Addr.add
 (Addr.add ad (Int.toNat x_5 * (5 : Nat))) (3 : Nat)) = Option.some (Value.slice x_19 x_20 x_21) ∧ ∃ (x_22 : Option Addr), ∃ (x_23 : Nat), ∃ (x_24 : Nat), World.cell? w' (Addr.add
 (Addr.add ad (Int.toNat x_5 * (5 : Nat))) (4 : Nat)) = Option.some (Value.slice x_22 x_23 x_24) ∧ CallsV Try.prog (17 : Nat) #[Value.pointer x, Value.agg #[Value.int
 IntKind.i64 x_16, Value.int IntKind.i64 x_17, Value.int IntKind.i64 x_18, Value.slice x_19 x_20 x_21, Value.slice x_22 x_23 x_24]] w' fun (v : Value) (w' : World) => v =
 Value.tuple #[] ∧ I (IntKind.wrap IntKind.i64 (x_5 + (1 : Int))) w' ∧ μ (IntKind.wrap IntKind.i64 (x_5 + (1 : Int))) w' < μ x_5 w else I (IntKind.wrap IntKind.i64 (x_5 + (1 :
 Int))) w' ∧ μ (IntKind.wrap IntKind.i64 (x_5 + (1 : Int))) w' < μ x_5 w else J w else J w else ((0 : Int) ≤ (0 : Int) ∧ (0 : Int) < (↑(2 : Nat) : Int)) ∧ ∃ (x : Option Addr), ∃ (x_3 : Nat), ∃
 (x_4 : Nat), World.cell? w (Addr.add (Addr.add (Addr.mk g (0 : Nat) Option.none) (Int.toNat (0 : Int) * (4 : Nat))) (0 : Nat)) = Option.some (Value.slice x x_3 x_4) ∧ ∃ (x_5 : Option
 Addr), ∃ (x_6 : Nat), ∃ (x_7 : Nat), World.cell? w (Addr.add (Addr.add (Addr.mk g (0 : Nat) Option.none) (Int.toNat (0 : Int) * (4 : Nat))) (1 : Nat)) = Option.some (Value.slice x_5
 x_6 x_7) ∧ ∃ (x_8 : Int), World.cell? w (Addr.add (Addr.add (Addr.mk g (0 : Nat) Option.none) (Int.toNat (0 : Int) * (4 : Nat))) (2 : Nat)) = Option.some (Value.int IntKind.i64 x_8) ∧
 ∃ (x_9 : Int), World.cell? w (Addr.add (Addr.add (Addr.mk g (0 : Nat) Option.none) (Int.toNat (0 : Int) * (4 : Nat))) (3 : Nat)) = Option.some (Value.int IntKind.i64 x_9) ∧ ((0 : Int)
 ≤ (1 : Int) ∧ (1 : Int) < (↑(2 : Nat) : Int)) ∧ ∃ (x_10 : Option Addr), ∃ (x_11 : Nat), ∃ (x_12 : Nat), World.cell? w (Addr.add (Addr.add (Addr.mk g (0 : Nat) Option.none) (Int.toNat (1
 : Int) * (4 : Nat))) (0 : Nat)) = Option.some (Value.slice x_10 x_11 x_12) ∧ ∃ (x_13 : Option Addr), ∃ (x_14 : Nat), ∃ (x_15 : Nat), World.cell? w (Addr.add (Addr.add (Addr.mk g (0 :
 Nat) Option.none) (Int.toNat (1 : Int) * (4 : Nat))) (1 : Nat)) = Option.some (Value.slice x_13 x_14 x_15) ∧ ∃ (x_16 : Int), World.cell? w (Addr.add (Addr.add (Addr.mk g (0 : Nat)
 Option.none) (Int.toNat (1 : Int) * (4 : Nat))) (2 : Nat)) = Option.some (Value.int IntKind.i64 x_16) ∧ ∃ (x_17 : Int), World.cell? w (Addr.add (Addr.add (Addr.mk g (0 : Nat)
 Option.none) (Int.toNat (1 : Int) * (4 : Nat))) (3 : Nat)) = Option.some (Value.int IntKind.i64 x_17) ∧ CallsV Try.prog (21 : Nat) #[Value.agg #[Value.slice x x_3 x_4,
 Value.slice x_5 x_6 x_7, Value.int IntKind.i64 x_8, Value.int IntKind.i64 x_9], Value.agg #[Value.slice x_10 x_11 x_12, Value.slice x_13 x_14 x_15, Value.int IntKind.i64
 x_16, Value.int IntKind.i64 x_17]] w fun (v : Value) (w' : World) => ∃ (x : Bool), v = Value.bool x ∧ bif x then CallsV Try.prog (23 : Nat) #[] w' fun (v : Value) (w'
 : World) => ∃ (x : Bool), v = Value.bool x ∧ K (Value.bool x) w' else K (Value.bool Bool.false) w') ∧ ∃ (I : Int → World → Prop), ∃ (μ : Int → World → Nat), I (0 : Int) w' ∧ ∀ (x_2 :
 Int) (w : World), I x_2 w → bif Decidable.decide (x_2 < (↑ahead_n : Int)) then bif Decidable.decide (x_2 < (25 : Int)) then ∃ (ad : Addr), ahead_A = Option.some ad ∧ ((0 : Int) ≤ x_2 ∧ x_2 <
 (↑ahead_n : Int)) ∧ ∃ (x_3 : Int), World.cell? w (Addr.add (Addr.add ad (Int.toNat x_2 * (5 : Nat))) (0 : Nat)) = Option.some (Value.int IntKind.i64 x_3) ∧ ∃ (x_4 : Int), World.cell?
 w (Addr.add (Addr.add ad (Int.toNat x_2 * (5 : Nat))) (1 : Nat)) = Option.some (Value.int IntKind.i64 x_4) ∧ ∃ (x_5 : Int), World.cell? w (Addr.add (Addr.add ad (Int.toNat x_2 * (5
 : Nat))) (2 : Nat)) = Option.some (Value.int IntKind.i64 x_5) ∧ ∃ (x_6 : Option Addr), ∃ (x_7 : Nat), ∃ (x_8 : Nat), World.cell? w (Addr.add (Addr.add ad (Int.toNat x_2 * (5 : Nat)))
 (3 : Nat)) = Option.some (Value.slice x_6 x_7 x_8) ∧ ∃ (x_9 : Option Addr), ∃ (x_10 : Nat), ∃ (x_11 : Nat), World.cell? w (Addr.add (Addr.add ad (Int.toNat x_2 * (5 : Nat))) (4 : Nat)) =
 Option.some (Value.slice x_9 x_10 x_11) ∧ CallsV Try.prog (16 : Nat) #[Value.agg #[Value.int IntKind.i64 x_3, Value.int IntKind.i64 x_4, Value.int IntKind.i64
 x_5, Value.slice x_6 x_7 x_8, Value.slice x_9 x_10 x_11]] w fun (v : Value) (w' : World) => ∃ (x_12 : Bool), v = Value.bool x_12 ∧ bif x_12 then ∃ (ad : Addr), ahead_A = Option.some
 ad ∧ ((0 : Int) ≤ x_2 ∧ x_2 < (↑ahead_n : Int)) ∧ ∃ (x_13 : Int), World.cell? w' (Addr.add (Addr.add ad (Int.toNat x_2 * (5 : Nat))) (0 : Nat)) = Option.some (Value.int IntKind.i64 x_13)
 ∧ ∃ (x_14 : Int), World.cell? w' (Addr.add (Addr.add ad (Int.toNat x_2 * (5 : Nat))) (1 : Nat)) = Option.some (Value.int IntKind.i64 x_14) ∧ ∃ (x_15 : Int), World.cell? w'
 (Addr.add (Addr.add ad (Int.toNat x_2 * (5 : Nat))) (2 : Nat)) = Option.some (Value.int IntKind.i64 x_15) ∧ ∃ (x_16 : Option Addr), ∃ (x_17 : Nat), ∃ (x_18 : Nat), World.cell? w'
 (Addr.add (Addr.add ad (Int.toNat x_2 * (5 : Nat))) (3 : Nat)) = Option.some (Value.slice x_16 x_17 x_18) ∧ ∃ (x_19 : Option Addr), ∃ (x_20 : Nat), ∃ (x_21 : Nat), World.cell? w'
 (Addr.add (Addr.add ad (Int.toNat x_2 * (5 : Nat))) (4 : Nat)) = Option.some (Value.slice x_19 x_20 x_21) ∧ CallsV Try.prog (17 : Nat) #[Value.pointer x, Value.agg
 #[Value.int IntKind.i64 x_13, Value.int IntKind.i64 x_14, Value.int IntKind.i64 x_15, Value.slice x_16 x_17 x_18, Value.slice x_19 x_20 x_21]] w' fun (v : Value) (w' :
 World) => v = Value.tuple #[] ∧ I (IntKind.wrap IntKind.i64 (x_2 + (1 : Int))) w' ∧ μ (IntKind.wrap IntKind.i64 (x_2 + (1 : Int))) w' < μ x_2 w else I (IntKind.wrap IntKind.i64
 (x_2 + (1 : Int))) w' ∧ μ (IntKind.wrap IntKind.i64 (x_2 + (1 : Int))) w' < μ x_2 w else J w else J w
theorem cardindexlaw05_UndoAgain.eq (ahead_A : Option Addr) (ahead_n : Nat) (ahead_c : Nat) (ops_A : Option Addr) (ops_n : Nat) (ops_c : Nat) (w : World) (K : Value → World → Prop) : cardindexlaw05_UndoAgain.W ahead_A ahead_n ahead_c ops_A ops_n ops_c w K = fnW Try.prog Try.f5 (.named (.seq .auto (.seq .auto (.seq .auto (.join [] (.seq .auto (.block (.loop [(7, .one (.int .i64))] .auto))) (.seq .auto (.seq (.seq .auto (.block (.loop [(9, .one (.int .i64))] (.seq .auto (.seq (.block (.seq .auto (.seq .auto (.join [] (.seq .auto (.block (.loop [(12, .one (.int .i64))] .auto))) .auto)))) .auto))))) .auto))))))) [.slice ahead_A ahead_n ahead_c, .slice ops_A ops_n ops_c] w K := by kernel_rfl
theorem cardindexlaw05_UndoAgain.calls (ok : Okay Try.prog) {ahead_A : Option Addr} {ahead_n : Nat} {ahead_c : Nat} {ops_A : Option Addr} {ops_n : Nat} {ops_c : Nat} {w : World} {K : Value → World → Prop} (h : cardindexlaw05_UndoAgain.W ahead_A ahead_n ahead_c ops_A ops_n ops_c w K) : CallsV Try.prog 5 #[.slice ahead_A ahead_n ahead_c, .slice ops_A ops_n ops_c] w K :=
  fnW_calls ok Try.func5 (an := (.named (.seq .auto (.seq .auto (.seq .auto (.join [] (.seq .auto (.block (.loop [(7, .one (.int .i64))] .auto))) (.seq .auto (.seq (.seq .auto (.block (.loop [(9, .one (.int .i64))] (.seq .auto (.seq (.block (.seq .auto (.seq .auto (.join [] (.seq .auto (.block (.loop [(12, .one (.int .i64))] .auto))) .auto)))) .auto))))) .auto)))))))) (args := [.slice ahead_A ahead_n ahead_c, .slice ops_A ops_n ops_c]) (by rw [← cardindexlaw05_UndoAgain.eq]; exact h)
noncomputable def cardindexlaw05_UndoBack.W : Int → Option Addr → Nat → Nat → Option Addr → Nat → Nat → World → (Value → World → Prop) → Prop := fun (most : Int) (ahead_A : Option Addr) (ahead_n
 ahead_c : Nat) (since_A : Option Addr) (since_n since_c : Nat) (w : World) (K : Value → World → Prop) => CallsV Try.prog (20 : Nat) #[Value.int IntKind.i64 most,
 Value.int IntKind.i64 (57 : Int)] w fun (v : Value) (w' : World) => ∃ (x : Int), v = Value.int IntKind.i64 x ∧ CallsV Try.prog (15 : Nat) #[Value.int IntKind.i64
 (4 : Int), Value.int IntKind.i64 (IntKind.wrap IntKind.i64 ((4 : Int) + x))] w' fun (v : Value) (w' : World) => ∃ (x : Option Addr), ∃ (x_1 : Int), v = Value.tuple
 #[Value.pointer x, Value.int IntKind.i64 x_1] ∧ CallsV Try.prog (26 : Nat) #[Value.pointer x] w' fun (v : Value) (w' : World) => ∃ (x_2 : Int), ∃ (x_3 : Int), v =
 Value.tuple #[Value.int IntKind.i64 x_2, Value.int IntKind.i64 x_3] ∧ bif !Decidable.decide (x_1 = (0 : Int)) then K (Value.bool Bool.false) w' else bif !Decidable.decide (x_3 = (0 :
 Int)) then K (Value.bool Bool.false) w' else ∃ (J : World → Prop), (∀ (w : World), J w → CallsV Try.prog (18 : Nat) #[Value.pointer x] w fun (v : Value) (w' : World)
 => ∃ (x_4 : Int), ∃ (x_5 : Int), v = Value.tuple #[Value.int IntKind.i64 x_4, Value.int IntKind.i64 x_5] ∧ CallsV Try.prog (22 : Nat) #[Value.pointer x] w' fun (v :
 Value) (w' : World) => ∃ (x_6 : Option Addr), ∃ (x_7 : Nat), ∃ (x_8 : Nat), ∃ (x_9 : Option Addr), ∃ (x_10 : Nat), ∃ (x_11 : Nat), ∃ (x_12 : Int), ∃ (x_13 : Int), v = Value.agg
 #[Value.slice x_6 x_7 x_8, Value.slice x_9 x_10 x_11, Value.int IntKind.i64 x_12, Value.int IntKind.i64 x_13] ∧ ∀ (g : Nat) (w'_1 : World), Fresh w' g w'_1 [Value.slice
 Option.none (0 : Nat) (0 : Nat), Value.slice Option.none (0 : Nat) (0 : Nat), Value.int IntKind.i64 (0 : Int), Value.int IntKind.i64 (0 : Int)] (40 : Nat) → stOK (Addr.mk g (0 :
 Nat) Option.none) (0 : Nat) [Value.slice x_6 x_7 x_8, Value.slice x_9 x_10 x_11, Value.int IntKind.i64 x_12, Value.int IntKind.i64 x_13] w'_1 ∧ ∀ (w' : World), w' = setAll
 (Addr.mk g (0 : Nat) Option.none) (0 : Nat) [Value.slice x_6 x_7 x_8, Value.slice x_9 x_10 x_11, Value.int IntKind.i64 x_12, Value.int IntKind.i64 x_13] w'_1 → CallsV
 Try.prog (18 : Nat) #[Value.pointer x] w' fun (v : Value) (w' : World) => ∃ (x_14 : Int), ∃ (x_15 : Int), v = Value.tuple #[Value.int IntKind.i64 x_14, Value.int
 IntKind.i64 x_15] ∧ bif !Decidable.decide (x_15 = (0 : Int)) then K (Value.bool Bool.false) w' else bif !Decidable.decide (x_14 = (2 : Int)) then K (Value.bool Bool.false) w' else ∃ (J :
 World → Prop), (∀ (w : World), J w → CallsV Try.prog (25 : Nat) #[Value.pointer x, Value.int IntKind.i64 x_14] w fun (v : Value) (w' : World) => ∃ (x_16 : Int), v =
 Value.int IntKind.i64 x_16 ∧ bif Decidable.decide (x_16 = (0 : Int)) then ∃ (S : World → Prop), S (World.drew w') ∧ ∃ (x_17 : Option Addr), ∃ (x_18 : Nat), ∃ (x_19 : Nat), (∀ (u :
 World), S u → World.cell? u (Addr.add (Addr.mk g (0 : Nat) Option.none) (0 : Nat)) = Option.some (Value.slice x_17 x_18 x_19)) ∧ ∃ (x_20 : Option Addr), ∃ (x_21 : Nat), ∃ (x_22 :
 Nat), (∀ (u : World), S u → World.cell? u (Addr.add (Addr.mk g (0 : Nat) Option.none) (1 : Nat)) = Option.some (Value.slice x_20 x_21 x_22)) ∧ ∃ (x_23 : Int), (∀ (u : World), S u →
 World.cell? u (Addr.add (Addr.mk g (0 : Nat) Option.none) (2 : Nat)) = Option.some (Value.int IntKind.i64 x_23)) ∧ ∃ (x_24 : Int), (∀ (u : World), S u → World.cell? u (Addr.add
 (Addr.mk g (0 : Nat) Option.none) (3 : Nat)) = Option.some (Value.int IntKind.i64 x_24)) ∧ CallsV Try.prog (22 : Nat) #[Value.pointer x] (World.drew w') fun (v :
 Value) (w' : World) => ∃ (x_25 : Option Addr), ∃ (x_26 : Nat), ∃ (x_27 : Nat), ∃ (x_28 : Option Addr), ∃ (x_29 : Nat), ∃ (x_30 : Nat), ∃ (x_31 : Int), ∃ (x_32 : Int), v = Value.agg
 #[Value.slice x_25 x_26 x_27, Value.slice x_28 x_29 x_30, Value.int IntKind.i64 x_31, Value.int IntKind.i64 x_32] ∧ S w' ∧ CallsV Try.prog (21 : Nat) #[Value.agg
 #[Value.slice x_25 x_26 x_27, Value.slice x_28 x_29 x_30, Value.int IntKind.i64 x_31, Value.int IntKind.i64 x_32], Value.agg #[Value.slice x_17 x_18 x_19, Value.slice x_20
 x_21 x_22, Value.int IntKind.i64 x_23, Value.int IntKind.i64 x_24]] w' fun (v : Value) (w' : World) => ∃ (x_33 : Bool), v = Value.bool x_33 ∧ bif x_33 then CallsV
 Try.prog (24 : Nat) #[Value.pointer x] w' fun (v : Value) (w' : World) => ∃ (x_34 : Int), v = Value.int IntKind.i64 x_34 ∧ bif Decidable.decide (x_34 = IntKind.wrap
 IntKind.i64 (x_14 - (1 : Int))) then CallsV Try.prog (25 : Nat) #[Value.pointer x, Value.int IntKind.i64 x_14] w' fun (v : Value) (w' : World) => ∃ (x_35 : Int), v =
 Value.int IntKind.i64 x_35 ∧ bif Decidable.decide (x_35 = (60 : Int)) then CallsV Try.prog (35 : Nat) #[Value.pointer x] w' fun (v : Value) (w' : World) => ∃ (x : Int), v
 = Value.int IntKind.i64 x ∧ bif Decidable.decide (x = (0 : Int)) then CallsV Try.prog (23 : Nat) #[] w' fun (v : Value) (w' : World) => ∃ (x : Bool), v = Value.bool x ∧ K
 (Value.bool x) w' else K (Value.bool Bool.false) w' else K (Value.bool Bool.false) w' else K (Value.bool Bool.false) w' else K (Value.bool Bool.false) w' else K (Value.bool
 Bool.false) (World.drew w')) ∧ ∃ (I : Int → World → Prop), ∃ (μ : Int → World → Nat), I (0 : Int) w' ∧ ∀ (x_16 : Int) (w : World), I x_16 w → bif Decidable.decide (x_16 < (↑since_n : Int))
 then bif Decidable.decide (x_16 < (60 : Int)) then ∃ (J : World → Prop), (∀ (w_1 : World), J w_1 → I (IntKind.wrap IntKind.i64 (x_16 + (1 : Int))) w_1 ∧ μ (IntKind.wrap IntKind.i64
 (x_16 + (1 : Int))) w_1 < μ x_16 w) ∧ ∃ (ad : Addr), since_A = Option.some ad ∧ ((0 : Int) ≤ x_16 ∧ x_16 < (↑since_n : Int)) ∧ ∃ (x_17 : Int), World.cell? w (Addr.add (Addr.add ad
 (Int.toNat x_16 * (5 : Nat))) (0 : Nat)) = Option.some (Value.int IntKind.i64 x_17) ∧ ∃ (x_18 : Int), World.cell? w (Addr.add (Addr.add ad (Int.toNat x_16 * (5 : Nat))) (1 : Nat)) =
 Option.some (Value.int IntKind.i64 x_18) ∧ ∃ (x_19 : Int), World.cell? w (Addr.add (Addr.add ad (Int.toNat x_16 * (5 : Nat))) (2 : Nat)) = Option.some (Value.int IntKind.i64 x_19)
 ∧ ∃ (x_20 : Option Addr), ∃ (x_21 : Nat), ∃ (x_22 : Nat), World.cell? w (Addr.add (Addr.add ad (Int.toNat x_16 * (5 : Nat))) (3 : Nat)) = Option.some (Value.slice x_20 x_21 x_22) ∧ ∃
 (x_23 : Option Addr), ∃ (x_24 : Nat), ∃ (x_25 : Nat), World.cell? w (Addr.add (Addr.add ad (Int.toNat x_16 * (5 : Nat))) (4 : Nat)) = Option.some (Value.slice x_23 x_24 x_25) ∧ ∀ (g :
 Nat) (w' : World), Fresh w g w' [Value.int IntKind.i64 (0 : Int), Value.int IntKind.i64 (0 : Int), Value.int IntKind.i64 (0 : Int), Value.slice Option.none (0 : Nat) (0 :
 Nat), Value.slice Option.none (0 : Nat) (0 : Nat)] (30 : Nat) → stOK (Addr.mk g (0 : Nat) Option.none) (0 : Nat) [Value.int IntKind.i64 x_17, Value.int IntKind.i64 x_18,
 Value.int IntKind.i64 x_19, Value.slice x_20 x_21 x_22, Value.slice x_23 x_24 x_25] w' ∧ ∀ (w'_2 : World), w'_2 = setAll (Addr.mk g (0 : Nat) Option.none) (0 : Nat)
 [Value.int IntKind.i64 x_17, Value.int IntKind.i64 x_18, Value.int IntKind.i64 x_19, Value.slice x_20 x_21 x_22, Value.slice x_23 x_24 x_25] w' → ∃ (J_1 : World → Prop), (∀
 (w : World), J_1 w → CallsV Try.prog (24 : Nat) #[Value.pointer x] w fun (v : Value) (w' : World) => ∃ (x_26 : Int), v = Value.int IntKind.i64 x_26 ∧ bif
 Decidable.decide (x_26 < x_14) then K (Value.bool Bool.false) w' else CallsV Try.prog (35 : Nat) #[Value.pointer x] w' fun (v : Value) (w' : World) => ∃ (x : Int), v =
 Value.int IntKind.i64 x ∧ bif !Decidable.decide (x = (0 : Int)) then K (Value.bool Bool.false) w' else J w') ∧ ∃ (x_26 : Int), World.cell? w'_2 (Addr.add (Addr.mk g (0 : Nat)
 Option.none) (0 : Nat)) = Option.some (Value.int IntKind.i64 x_26) ∧ ∃ (x_27 : Int), World.cell? w'_2 (Addr.add (Addr.mk g (0 : Nat) Option.none) (1 : Nat)) = Option.some (Value.int
 IntKind.i64 x_27) ∧ ∃ (x_28 : Int), World.cell? w'_2 (Addr.add (Addr.mk g (0 : Nat) Option.none) (2 : Nat)) = Option.some (Value.int IntKind.i64 x_28) ∧ ∃ (x_29 : Option Addr), ∃
 (x_30 : Nat), ∃ (x_31 : Nat), World.cell? w'_2 (Addr.add (Addr.mk g (0 : Nat) Option.none) (3 : Nat)) = Option.some (Value.slice x_29 x_30 x_31) ∧ ∃ (x_32 : Option Addr), ∃ (x_33 : Nat),
 ∃ (x_34 : Nat), World.cell? w'_2 (Addr.add (Addr.mk g (0 : Nat) Option.none) (4 : Nat)) = Option.some (Value.slice x_32 x_33 x_34) ∧ CallsV Try.prog (16 : Nat)
 #[Value.agg #[Value.int IntKind.i64 x_26, Value.int IntKind.i64 x_27, Value.int IntKind.i64 x_28, Value.slice x_29 x_30 x_31, Value.slice x_32 x_33 x_34]] w'_2 fun (v :
 Value) (w' : World) => ∃ (x_35 : Bool), v = Value.bool x_35 ∧ bif !x_35 then J_1 w' else ∃ (x_36 : Int), World.cell? w' (Addr.add (Addr.mk g (0 : Nat) Option.none) (0 : Nat)) =
 Option.some (Value.int IntKind.i64 x_36) ∧ bif Decidable.decide (x_36 = (9 : Int)) then CallsV Try.prog (18 : Nat) #[Value.pointer x] w' fun (v : Value) (w' : World) => ∃
 (x : Int), ∃ (x_37 : Int), v = Value.tuple #[Value.int IntKind.i64 x, Value.int IntKind.i64 x_37] ∧ J_1 w' else ∃ (x_37 : Int), World.cell? w' (Addr.add (Addr.mk g (0 : Nat)
 Option.none) (0 : Nat)) = Option.some (Value.int IntKind.i64 x_37) ∧ bif Decidable.decide (x_37 = (10 : Int)) then ∃ (x_38 : Int), World.cell? w' (Addr.add (Addr.mk g (0 : Nat)
 Option.none) (2 : Nat)) = Option.some (Value.int IntKind.i64 x_38) ∧ bif Decidable.decide (x_14 < x_38) then ∃ (x_39 : Int), World.cell? w' (Addr.add (Addr.mk g (0 : Nat) Option.none) (2
 : Nat)) = Option.some (Value.int IntKind.i64 x_39) ∧ CallsV Try.prog (25 : Nat) #[Value.pointer x, Value.int IntKind.i64 x_39] w' fun (v : Value) (w' : World) => ∃
 (x : Int), v = Value.int IntKind.i64 x ∧ J_1 w' else ∃ (x_39 : Int), World.cell? w' (Addr.add (Addr.mk g (0 : Nat) Option.none) (0 : Nat)) = Option.some (Value.int IntKind.i64
 x_39) ∧ bif Decidable.decide (x_39 = (11 : Int)) then ∃ (x_40 : Int), World.cell? w' (Addr.add (Addr.mk g (0 : Nat) Option.none) (2 : Nat)) = Option.some (Value.int IntKind.i64 x_40) ∧
 bif Decidable.decide (x_14 < x_40) then ∃ (x_41 : Int), World.cell? w' (Addr.add (Addr.mk g (0 : Nat) Option.none) (2 : Nat)) = Option.some (Value.int IntKind.i64 x_41) ∧ CallsV
 Try.prog (19 : Nat) #[Value.pointer x, Value.int IntKind.i64 x_41] w' fun (v : Value) (w' : World) => ∃ (x : Int), v = Value.int IntKind.i64 x ∧ J_1 w' else ∃ (x_41 :
 Int), World.cell? w' (Addr.add (Addr.mk g (0 : Nat) Option.none) (0 : Nat)) = Option.some (Value.int IntKind.i64 x_41) ∧ ∃ (x_42 : Int), World.cell? w' (Addr.add (Addr.mk g (0 :
 Nat) Option.none) (1 : Nat)) = Option.some (Value.int IntKind.i64 x_42) ∧ ∃ (x_43 : Int), World.cell? w' (Addr.add (Addr.mk g (0 : Nat) Option.none) (2 : Nat)) = Option.some
 (Value.int IntKind.i64 x_43) ∧ ∃ (x_44 : Option Addr), ∃ (x_45 : Nat), ∃ (x_46 : Nat), World.cell? w' (Addr.add (Addr.mk g (0 : Nat) Option.none) (3 : Nat)) = Option.some
 (Value.slice x_44 x_45 x_46) ∧ ∃ (x_47 : Option Addr), ∃ (x_48 : Nat), ∃ (x_49 : Nat), World.cell? w' (Addr.add (Addr.mk g (0 : Nat) Option.none) (4 : Nat)) = Option.some (Value.slice
 x_47 x_48 x_49) ∧ CallsV Try.prog (17 : Nat) #[Value.pointer x, Value.agg #[Value.int IntKind.i64 x_41, Value.int IntKind.i64 x_42, Value.int IntKind.i64 x_43,
 Value.slice x_44 x_45 x_46, Value.slice x_47 x_48 x_49]] w' fun (v : Value) (w' : World) => v = Value.tuple #[] ∧ J_1 w' else ∃ (x_40 : Int), World.cell? w' (Addr.add (Addr.mk g
 (0 : Nat) Option.none) (0 : Nat)) = Option.some (Value.int IntKind.i64 x_40) ∧ ∃ (x_41 : Int), World.cell? w' (Addr.add (Addr.mk g (0 : Nat) Option.none) (1 : Nat)) = Option.some
 (Value.int IntKind.i64 x_41) ∧ ∃ (x_42 : Int), World.cell? w' (Addr.add (Addr.mk g (0 : Nat) Option.none) (2 : Nat)) = Option.some (Value.int IntKind.i64 x_42) ∧ ∃ (x_43 : Option
 Addr), ∃ (x_44 : Nat), ∃ (x_45 : Nat), World.cell? w' (Addr.add (Addr.mk g (0 : Nat) Option.none) (3 : Nat)) = Option.some (Value.slice x_43 x_44 x_45) ∧ ∃ (x_46 : Option Addr), ∃
 (x_47 : Nat), ∃ (x_48 : Nat), World.cell? w' (Addr.add (Addr.mk g (0 : Nat) Option.none) (4 : Nat)) = Option.some (Value.slice x_46 x_47 x_48) ∧ CallsV Try.prog (17 : Nat)
 #[Value.pointer x, Value.agg #[Value.int IntKind.i64 x_40, Value.int IntKind.i64 x_41, Value.int IntKind.i64 x_42, Value.slice x_43 x_44 x_45, Value.slice x_46 x_47 x_48]]
 w' fun (v : Value) (w' : World) => v = Value.tuple #[] ∧ J_1 w' else ∃ (x_38 : Int), World.cell? w' (Addr.add (Addr.mk g (0 : Nat) Option.none) (0 : Nat)) = Option.some (Value.int
 IntKind.i64 x_38) ∧ bif Decidable.decide (x_38 = (11 : Int)) then ∃ (x_39 : Int), World.cell? w' (Addr.add (Addr.mk g (0 : Nat) Option.none) (2 : Nat)) = Option.some (Value.int
 IntKind.i64 x_39) ∧ bif Decidable.decide (x_14 < x_39) then ∃ (x_40 : Int), World.cell? w' (Addr.add (Addr.mk g (0 : Nat) Option.none) (2 : Nat)) = Option.some (Value.int IntKind.i64
 x_40) ∧ CallsV Try.prog (19 : Nat) #[Value.pointer x, Value.int IntKind.i64 x_40] w' fun (v : Value) (w' : World) => ∃ (x : Int), v = Value.int IntKind.i64 x ∧ J_1
 w' else ∃ (x_40 : Int), World.cell? w' (Addr.add (Addr.mk g (0 : Nat) Option.none) (0 : Nat)) = Option.some (Value.int IntKind.i64 x_40) ∧ ∃ (x_41 : Int), World.cell? w' (Addr.add
 (Addr.mk g (0 : Nat) Option.none) (1 : Nat)) = Option.some (Value.int IntKind.i64 x_41) ∧ ∃ (x_42 : Int), World.cell? w' (Addr.add (Addr.mk g (0 : Nat) Option.none) (2 : Nat)) =
 Option.some (Value.int IntKind.i64 x_42) ∧ ∃ (x_43 : Option Addr), ∃ (x_44 : Nat), ∃ (x_45 : Nat), World.cell? w' (Addr.add (Addr.mk g (0 : Nat) Option.none) (3 : Nat)) = Option.some
 (Value.slice x_43 x_44 x_45) ∧ ∃ (x_46 : Option Addr), ∃ (x_47 : Nat), ∃ (x_48 : Nat), World.cell? w' (Addr.add (Addr.mk g (0 : Nat) Option.none) (4 : Nat)) = Option.some (Value.slice
 x_46 x_47 x_48) ∧ CallsV Try.prog (17 : Nat) #[Value.pointer x, Value.agg #[Value.int IntKind.i64 x_40, Value.int IntKind.i64 x_41, Value.int IntKind.i64 x_42,
 Value.slice x_43 x_44 x_45, Value.slice x_46 x_47 x_48]] w' fun (v : Value) (w' : World) => v = Value.tuple #[] ∧ J_1 w' else ∃ (x_39 : Int), World.cell? w' (Addr.add (Addr.mk g
 (0 : Nat) Option.none) (0 : Nat)) = Option.some (Value.int IntKind.i64 x_39) ∧ ∃ (x_40 : Int), World.cell? w' (Addr.add (Addr.mk g (0 : Nat) Option.none) (1 : Nat)) = Option.some
 (Value.int IntKind.i64 x_40) ∧ ∃ (x_41 : Int), World.cell? w' (Addr.add (Addr.mk g (0 : Nat) Option.none) (2 : Nat)) = Option.some (Value.int IntKind.i64 x_41) ∧ ∃ (x_42 : Option
 Addr), ∃ (x_43 : Nat), ∃ (x_44 : Nat), World.cell? w' (Addr.add (Addr.mk g (0 : Nat) Option.none) (3 : Nat)) = Option.some (Value.slice x_42 x_43 x_44) ∧ ∃ (x_45 : Option Addr), ∃
 (x_46 : Nat), ∃ (x_47 : Nat), World.cell? w' (Addr.add (Addr.mk g (0 : Nat) Option.none) (4 : Nat)) = Option.some (Value.slice x_45 x_46 x_47) ∧ CallsV Try.prog (17 : Nat)
 #[Value.pointer x, Value.agg #[Value.int IntKind.i64 x_39, Value.int IntKind.i64 x_40, Value.int IntKind.i64 x_41, Value.slice x_42 x_43 x_44, Value.slice x_45 x_46 x_47]]
 w' fun (v : Value) (w' : World) => v = Value.tuple #[] ∧ J_1 w' else J w else J w) ∧ ∃ (I : Int → World → Prop), ∃ (μ : Int → World → Nat), I (0 : Int) w' ∧ ∀ (x_4 : Int) (w : World),
 I x_4 w → bif Decidable.decide (x_4 < (↑ahead_n : Int)) then bif Decidable.decide (x_4 < (25 : Int)) then ∃ (ad : Addr), ahead_A = Option.some ad ∧ ((0 : Int) ≤ x_4 ∧ x_4 < (↑ahead_n : Int)) ∧ ∃
 (x_5 : Int), World.cell? w (Addr.add (Addr.add ad (Int.toNat x_4 * (5 : Nat))) (0 : Nat)) = Option.some (Value.int IntKind.i64 x_5) ∧ ∃ (x_6 : Int), World.cell? w (Addr.add
 (Addr.add ad (Int.toNat x_4 * (5 : Nat))) (1 : Nat)) = Option.some (Value.int IntKind.i64 x_6) ∧ ∃ (x_7 : Int), World.cell? w (Addr.add (Addr.add ad (Int.toNat x_4 * (5 : Nat))) (2 :
 Nat)) = Option.some (Value.int IntKind.i64 x_7) ∧ ∃ (x_8 : Option Addr), ∃ (x_9 : Nat), ∃ (x_10 : Nat), World.cell? w (Addr.add (Addr.add ad (Int.toNat x_4 * (5 : Nat))) (3 : Nat)) =
 Option.some (Value.slice x_8 x_9 x_10) ∧ ∃ (x_11 : Option Addr), ∃ (x_12 : Nat), ∃ (x_13 : Nat), World.cell? w (Addr.add (Addr.add ad (Int.toNat x_4 * (5 : Nat))) (4 : Nat)) =
 Option.some (Value.slice x_11 x_12 x_13) ∧ CallsV Try.prog (16 : Nat) #[Value.agg #[Value.int IntKind.i64 x_5, Value.int IntKind.i64 x_6, Value.int IntKind.i64
 x_7, Value.slice x_8 x_9 x_10, Value.slice x_11 x_12 x_13]] w fun (v : Value) (w' : World) => ∃ (x_14 : Bool), v = Value.bool x_14 ∧ bif x_14 then ∃ (ad : Addr), ahead_A = Option.some
 ad ∧ ((0 : Int) ≤ x_4 ∧ x_4 < (↑ahead_n : Int)) ∧ ∃ (x_15 : Int), World.cell? w' (Addr.add (Addr.add ad (Int.toNat x_4 * (5 : Nat))) (0 : Nat)) = Option.some (Value.int IntKind.i64 x_15)
 ∧ ∃ (x_16 : Int), World.cell? w' (Addr.add (Addr.add ad (Int.toNat x_4 * (5 : Nat))) (1 : Nat)) = Option.some (Value.int IntKind.i64 x_16) ∧ ∃ (x_17 : Int), World.cell? w'
 (Addr.add (Addr.add ad (Int.toNat x_4 * (5 : Nat))) (2 : Nat)) = Option.some (Value.int IntKind.i64 x_17) ∧ ∃ (x_18 : Option Addr), ∃ (x_19 : Nat), ∃ (x_20 : Nat), World.cell? w'
 (Addr.add (Addr.add ad (Int.toNat x_4 * (5 : Nat))) (3 : Nat)) = Option.some (Value.slice x_18 x_19 x_20) ∧ ∃ (x_21 : Option Addr), ∃ (x_22 : Nat), ∃ (x_23 : Nat), World.cell? w'
 (Addr.add (Addr.add ad (Int.toNat x_4 * (5 : Nat))) (4 : Nat)) = Option.some (Value.slice x_21 x_22 x_23) ∧ CallsV Try.prog (17 : Nat) #[Value.pointer x, Value.agg
 #[Value.int IntKind.i64 x_15, Value.int IntKind.i64 x_16, Value.int IntKind.i64 x_17, Value.slice x_18 x_19 x_20, Value.slice x_21 x_22 x_23]] w' fun (v : Value) (w' :
 World) => v = Value.tuple #[] ∧ I (IntKind.wrap IntKind.i64 (x_4 + (1 : Int))) w' ∧ μ (IntKind.wrap IntKind.i64 (x_4 + (1 : Int))) w' < μ x_4 w else I (IntKind.wrap IntKind.i64
 (x_4 + (1 : Int))) w' ∧ μ (IntKind.wrap IntKind.i64 (x_4 + (1 : Int))) w' < μ x_4 w else J w else J w
theorem cardindexlaw05_UndoBack.eq (most : Int) (ahead_A : Option Addr) (ahead_n : Nat) (ahead_c : Nat) (since_A : Option Addr) (since_n : Nat) (since_c : Nat) (w : World) (K : Value → World → Prop) : cardindexlaw05_UndoBack.W most ahead_A ahead_n ahead_c since_A since_n since_c w K = fnW Try.prog Try.f7 (.named (.seq .auto (.seq .auto (.seq .auto (.seq .auto (.join [] (.seq .auto (.block (.loop [(11, .one (.int .i64))] .auto))) (.seq .auto (.seq .auto (.seq .auto (.seq .auto (.join [] (.seq .auto (.block (.loop [(15, .one (.int .i64))] (.seq .auto (.join [] (.block (.seq .auto (.join [] .auto .auto))) .auto))))) .auto))))))))))) [.int .i64 most, .slice ahead_A ahead_n ahead_c, .slice since_A since_n since_c] w K := by kernel_rfl
theorem cardindexlaw05_UndoBack.calls (ok : Okay Try.prog) {most : Int} {ahead_A : Option Addr} {ahead_n : Nat} {ahead_c : Nat} {since_A : Option Addr} {since_n : Nat} {since_c : Nat} {w : World} {K : Value → World → Prop} (h : cardindexlaw05_UndoBack.W most ahead_A ahead_n ahead_c since_A since_n since_c w K) : CallsV Try.prog 7 #[.int .i64 most, .slice ahead_A ahead_n ahead_c, .slice since_A since_n since_c] w K :=
  fnW_calls ok Try.func7 (an := (.named (.seq .auto (.seq .auto (.seq .auto (.seq .auto (.join [] (.seq .auto (.block (.loop [(11, .one (.int .i64))] .auto))) (.seq .auto (.seq .auto (.seq .auto (.seq .auto (.join [] (.seq .auto (.block (.loop [(15, .one (.int .i64))] (.seq .auto (.join [] (.block (.seq .auto (.join [] .auto .auto))) .auto))))) .auto)))))))))))) (args := [.int .i64 most, .slice ahead_A ahead_n ahead_c, .slice since_A since_n since_c]) (by rw [← cardindexlaw05_UndoBack.eq]; exact h)
noncomputable def cardindexlaw05_UndoNone.W : Int → Option Addr → Nat → Nat → Option Addr → Nat → Nat → Bool → World → (Value → World → Prop) → Prop := fun (id : Int) (key_A : Option Addr) (key_n
 key_c : Nat) (val_A : Option Addr) (val_n val_c : Nat) (atx : Bool) (w : World) (K : Value → World → Prop) => ∀ (g : Nat) (w' : World), Fresh w g w' [Value.pointer Option.none,
 Value.slice Option.none (0 : Nat) (0 : Nat), Value.slice Option.none (0 : Nat) (0 : Nat)] (81 : Nat) → ∀ (g_1 : Nat) (w'_1 : World), Fresh w' g_1 w'_1 [Value.pointer Option.none,
 Value.pointer (Option.some (Addr.mk g (0 : Nat) Option.none))] (23 : Nat) → ∃ (I : Int → World → Prop), ∃ (μ : Int → World → Nat), I (0 : Int) w'_1 ∧ ∀ (x : Int) (w : World), I x w → bif
 Decidable.decide (x < (↑(2 : Nat) : Int)) then ∃ (ad : Addr), Option.some (Addr.mk g_1 (0 : Nat) Option.none) = Option.some ad ∧ ((0 : Int) ≤ x ∧ x < (↑(2 : Nat) : Int)) ∧ ∃ (x_1 : Option
 Addr), World.cell? w (Addr.add ad (Int.toNat x * (1 : Nat))) = Option.some (Value.pointer x_1) ∧ CallsV Try.prog (26 : Nat) #[Value.pointer x_1] w fun (v : Value) (w'
 : World) => ∃ (x_2 : Int), ∃ (x_3 : Int), v = Value.tuple #[Value.int IntKind.i64 x_2, Value.int IntKind.i64 x_3] ∧ CallsV Try.prog (29 : Nat) #[Value.pointer x_1,
 Value.int IntKind.i64 id, Value.slice key_A key_n key_c, Value.slice val_A val_n val_c] w' fun (v : Value) (w' : World) => ∃ (x_4 : Bool), ∃ (x_5 : Int), v = Value.tuple
 #[Value.bool x_4, Value.int IntKind.i64 x_5] ∧ CallsV Try.prog (40 : Nat) #[Value.pointer x_1, Value.int IntKind.i64 id, Value.slice key_A key_n key_c] w' fun (v :
 Value) (w' : World) => ∃ (x_6 : Bool), ∃ (x_7 : Int), v = Value.tuple #[Value.bool x_6, Value.int IntKind.i64 x_7] ∧ CallsV Try.prog (18 : Nat) #[Value.pointer x_1]
 w' fun (v : Value) (w' : World) => ∃ (x_8 : Int), ∃ (x_9 : Int), v = Value.tuple #[Value.int IntKind.i64 x_8, Value.int IntKind.i64 x_9] ∧ CallsV Try.prog (49 :
 Nat) #[Value.pointer x_1, Value.int IntKind.i64 id, Value.slice key_A key_n key_c] w' fun (v : Value) (w' : World) => ∃ (x_10 : Option Addr), ∃ (x_11 : Nat), ∃ (x_12 : Nat), ∃
 (x_13 : Bool), v = Value.tuple #[Value.slice x_10 x_11 x_12, Value.bool x_13] ∧ CallsV Try.prog (50 : Nat) #[Value.pointer x_1, Value.int IntKind.i64 id,
 Value.slice key_A key_n key_c, Value.bool atx] w' fun (v : Value) (w' : World) => ∃ (x_14 : Option Addr), ∃ (x_15 : Nat), ∃ (x_16 : Nat), ∃ (x_17 : Option Addr), ∃ (x_18 : Nat), ∃
 (x_19 : Nat), ∃ (x_20 : Bool), v = Value.tuple #[Value.slice x_14 x_15 x_16, Value.slice x_17 x_18 x_19, Value.bool x_20] ∧ CallsV Try.prog (51 : Nat) #[Value.pointer
 x_1, Value.int IntKind.i64 id, Value.slice key_A key_n key_c, Value.bool atx] w' fun (v : Value) (w' : World) => ∃ (x_21 : Option Addr), ∃ (x_22 : Nat), ∃ (x_23 : Nat), ∃ (x_24 :
 Option Addr), ∃ (x_25 : Nat), ∃ (x_26 : Nat), ∃ (x_27 : Bool), v = Value.tuple #[Value.slice x_21 x_22 x_23, Value.slice x_24 x_25 x_26, Value.bool x_27] ∧ CallsV
 Try.prog (52 : Nat) #[Value.pointer x_1, Value.int IntKind.i64 id] w' fun (v : Value) (w' : World) => ∃ (x_28 : Option Addr), ∃ (x_29 : Nat), ∃ (x_30 : Nat), ∃ (x_31 :
 Option Addr), ∃ (x_32 : Nat), ∃ (x_33 : Nat), ∃ (x_34 : Bool), v = Value.tuple #[Value.slice x_28 x_29 x_30, Value.slice x_31 x_32 x_33, Value.bool x_34] ∧ bif !Decidable.decide (x_3 =
 (1 : Int)) then K (Value.bool Bool.false) w' else bif !Decidable.decide (x_5 = (1 : Int)) then K (Value.bool Bool.false) w' else bif !Decidable.decide (x_7 = (1 : Int)) then K (Value.bool
 Bool.false) w' else bif !Decidable.decide (x_9 = (1 : Int)) then K (Value.bool Bool.false) w' else CallsV Try.prog (31 : Nat) #[Value.pointer x_1, Value.int IntKind.i64 id]
 w' fun (v : Value) (w' : World) => ∃ (x_35 : Int), v = Value.int IntKind.i64 x_35 ∧ bif !Decidable.decide (x_35 = (1 : Int)) then K (Value.bool Bool.false) w' else CallsV
 Try.prog (35 : Nat) #[Value.pointer x_1] w' fun (v : Value) (w' : World) => ∃ (x_36 : Int), v = Value.int IntKind.i64 x_36 ∧ bif !Decidable.decide (x_36 = (1 : Int)) then K
 (Value.bool Bool.false) w' else CallsV Try.prog (25 : Nat) #[Value.pointer x_1, Value.int IntKind.i64 id] w' fun (v : Value) (w' : World) => ∃ (x_37 : Int), v =
 Value.int IntKind.i64 x_37 ∧ bif !Decidable.decide (x_37 = (1 : Int)) then K (Value.bool Bool.false) w' else CallsV Try.prog (19 : Nat) #[Value.pointer x_1, Value.int
 IntKind.i64 id] w' fun (v : Value) (w' : World) => ∃ (x_38 : Int), v = Value.int IntKind.i64 x_38 ∧ bif !Decidable.decide (x_38 = (1 : Int)) then K (Value.bool Bool.false) w' else bif
 x_4 then K (Value.bool Bool.false) w' else bif x_6 then K (Value.bool Bool.false) w' else bif x_13 then K (Value.bool Bool.false) w' else bif x_20 then K (Value.bool Bool.false) w' else bif
 x_27 then K (Value.bool Bool.false) w' else bif x_34 then K (Value.bool Bool.false) w' else CallsV Try.prog (34 : Nat) #[Value.pointer x_1, Value.int IntKind.i64 id] w'
 fun (v : Value) (w' : World) => ∃ (x_39 : Int), v = Value.int IntKind.i64 x_39 ∧ CallsV Try.prog (39 : Nat) #[Value.pointer x_1] w' fun (v : Value) (w' : World) =>
 ∃ (x_40 : Int), v = Value.int IntKind.i64 x_40 ∧ CallsV Try.prog (24 : Nat) #[Value.pointer x_1] w' fun (v : Value) (w' : World) => ∃ (x_41 : Int), v = Value.int
 IntKind.i64 x_41 ∧ CallsV Try.prog (33 : Nat) #[Value.pointer x_1] w' fun (v : Value) (w' : World) => ∃ (x_42 : Option Addr), ∃ (x_43 : Nat), ∃ (x_44 : Nat), v =
 Value.slice x_42 x_43 x_44 ∧ bif !Decidable.decide (IntKind.wrap IntKind.i64 (IntKind.wrap IntKind.i64 (IntKind.wrap IntKind.i64 (IntKind.wrap IntKind.i64 (IntKind.wrap
 IntKind.i64 (x_2 + x_8) + x_39) + x_40) + x_41) + (↑x_43 : Int)) = (0 : Int)) then K (Value.bool Bool.false) w' else I (IntKind.wrap IntKind.i64 (x + (1 : Int))) w' ∧ μ (IntKind.wrap
 IntKind.i64 (x + (1 : Int))) w' < μ x w else CallsV Try.prog (23 : Nat) #[] w fun (v : Value) (w' : World) => ∃ (x : Bool), v = Value.bool x ∧ K (Value.bool x) w'
theorem cardindexlaw05_UndoNone.eq (id : Int) (key_A : Option Addr) (key_n : Nat) (key_c : Nat) (val_A : Option Addr) (val_n : Nat) (val_c : Nat) (atx : Bool) (w : World) (K : Value → World → Prop) : cardindexlaw05_UndoNone.W id key_A key_n key_c val_A val_n val_c atx w K = fnW Try.prog Try.f9 (.named (.seq .auto (.seq .auto (.seq (.seq .auto (.block (.loop [(36, .one (.int .i64))] .auto))) .auto)))) [.int .i64 id, .slice key_A key_n key_c, .slice val_A val_n val_c, .bool atx] w K := by kernel_rfl
theorem cardindexlaw05_UndoNone.calls (ok : Okay Try.prog) {id : Int} {key_A : Option Addr} {key_n : Nat} {key_c : Nat} {val_A : Option Addr} {val_n : Nat} {val_c : Nat} {atx : Bool} {w : World} {K : Value → World → Prop} (h : cardindexlaw05_UndoNone.W id key_A key_n key_c val_A val_n val_c atx w K) : CallsV Try.prog 9 #[.int .i64 id, .slice key_A key_n key_c, .slice val_A val_n val_c, .bool atx] w K :=
  fnW_calls ok Try.func9 (an := (.named (.seq .auto (.seq .auto (.seq (.seq .auto (.block (.loop [(36, .one (.int .i64))] .auto))) .auto))))) (args := [.int .i64 id, .slice key_A key_n key_c, .slice val_A val_n val_c, .bool atx]) (by rw [← cardindexlaw05_UndoNone.eq]; exact h)
end Go.Proofs.Ythfagbfllheneaa
/- Layer 5: calls, one after the other; two stores. -/
set_option linter.unusedVariables false
set_option linter.unusedSimpArgs false
namespace Go.Proofs.Ythfagbfllheneaa
open Go Go.Sx T4
/-! ## runs -/
/-! ## two stores -/
structure Two (w u : World) (T1 T2 : Nat → Prop) (s1 s2 : Nat) (q1 q2 : Ab) : Prop where
  a : Sto T1 u s1 q1
  b : Sto T2 u s2 q2
  off : ∀ k, T1 k → ¬ T2 k
  e : Ext w u
  n1 : ∀ k, T1 k → w.heap.size ≤ k
  n2 : ∀ k, T2 k → w.heap.size ≤ k
section
variable {w u : World} {T1 T2 : Nat → Prop} {s1 s2 : Nat} {q1 q2 : Ab}
theorem Two.ext (h : Two w u T1 T2 s1 s2 q1 q2) {u' : World} (e : Ext u u') : Two w u' T1 T2 s1 s2 q1 q2 := ⟨h.a.ext e, h.b.ext e, h.off, h.e.trans' e, h.n1, h.n2⟩
theorem Two.one (h : Two w u T1 T2 s1 s2 q1 q2) {u' : World} {T' : Nat → Prop} {q' : Ab} (h' : Sto T' u' s1 q') (c : Tch T1 u T' u') : Two w u' T' T2 s1 s2 q' q2 := by
  obtain ⟨e, n⟩ := c.keepExt h.e h.n1
  obtain ⟨b, o⟩ := h.b.other c fun k h2 h1 => h.off k h1 h2
  exact ⟨h', b, fun k h1 h2 => o k h2 h1, e, n, h.n2⟩
theorem Two.two (h : Two w u T1 T2 s1 s2 q1 q2) {u' : World} {T' : Nat → Prop} {q' : Ab} (h' : Sto T' u' s2 q') (c : Tch T2 u T' u') : Two w u' T1 T' s1 s2 q1 q' := by
  obtain ⟨e, n⟩ := c.keepExt h.e h.n2
  obtain ⟨a, o⟩ := h.a.other c h.off
  exact ⟨a, h', o, e, h.n1, n⟩
end
theorem Two.start {w u1 u2 : World} {s1 s2 : Nat} {T1 T2 : Nat → Prop} {q1 q2 : Ab} (h1 : Sto T1 u1 s1 q1) (e1 : Ext w u1) (n1 : ∀ k, T1 k → w.heap.size ≤ k) (h2 : Sto T2 u2 s2 q2) (e2 : Ext u1 u2) (n2 : ∀ k, T2 k → u1.heap.size ≤ k) : Two w u2 T1 T2 s1 s2 q1 q2 :=
  ⟨h1.ext e2, h2, fun k a b => by have := h1.lt k a; have := n2 k b; omega, e1.trans' e2, n1, fun k hk => Nat.le_trans e1.size (n2 k hk)⟩
theorem same_alike {w u : World} {T1 T2 : Nat → Prop} {s1 s2 : Nat} {A : Ar} {D : List Tr} {m1 m2 : List (Ar × List Tr)} (h : Two w u T1 T2 s1 s2 ⟨A, D, m1⟩ ⟨A, D, m2⟩) {Q : Bool → World → Prop} (hQ : ∀ u', Ext u u' → Q true u') :
    CallsV Try.prog 22 #[.pointer (some ⟨s1, 0, none⟩)] u fun v w' => ∃ x x35 x36 x37 x38 x39 x40 x41, v = .agg #[.slice x x35 x36, .slice x37 x38 x39, .int .i64 x40, .int .i64 x41] ∧
      CallsV Try.prog 22 #[.pointer (some ⟨s2, 0, none⟩)] w' fun v w' => ∃ x42 x43 x44 x45 x46 x47 x48 x49, v = .agg #[.slice x42 x43 x44, .slice x45 x46 x47, .int .i64 x48, .int .i64 x49] ∧
        CallsV Try.prog 21 #[.agg #[.slice x x35 x36, .slice x37 x38 x39, .int .i64 x40, .int .i64 x41], .agg #[.slice x42 x43 x44, .slice x45 x46 x47, .int .i64 x48, .int .i64 x49]] w' fun v w' => ∃ x, v = .bool x ∧ Q x w' := by
  refine (taken_spec h.a).mono ?_
  rintro _ u1 ⟨IA, inn, ic, LA, ln, lc, n, m, rfl, e1, S1⟩
  refine ⟨_, _, _, _, _, _, _, _, rfl, (taken_spec (h.b.ext e1)).mono ?_⟩
  rintro _ u2 ⟨IA', inn', ic', LA', ln', lc', n', m', rfl, e2, S2⟩
  refine ⟨_, _, _, _, _, _, _, _, rfl, (alike_spec (S1.keep (e2.step _)) S2 rfl rfl rfl h.a.inv.cnt).mono ?_⟩
  rintro _ u3 ⟨rfl, e3⟩
  exact ⟨_, rfl, hQ u3 ((e1.trans' e2).trans' e3)⟩
end Go.Proofs.Ythfagbfllheneaa
/- Layer 5: UndoNested, UndoAgain. -/
set_option linter.unusedVariables false
set_option linter.unusedSimpArgs false
namespace Go.Proofs.Ythfagbfllheneaa
open Go Go.Sx T4
def marksAt (v : World) (s : Nat) : Nat := match v.cell? ((⟨s, 0, none⟩ : Addr).add 2) with
  | some (.slice _ n _) => n
  | _ => 0
theorem Sto.marksAt {T : Nat → Prop} {v : World} {s : Nat} {q : Ab} (h : Sto T v s q) : marksAt v s = q.ms.length := by
  obtain ⟨g, R, M, IA, ic, X, xc, L, h⟩ := h
  have : v.cell? ((⟨s, 0, none⟩ : Addr).add 2) = some (.slice X L.length xc) := h.blk.cell rfl
  unfold Go.Proofs.Ythfagbfllheneaa.marksAt
  rw [this]
  show L.length = _
  rw [← h.ms, List.length_map]
set_option maxRecDepth 10000 in
set_option maxHeartbeats 1000000 in
theorem UndoNested_spec {Ωo : Nat → Prop} {w : World} {OA : Option Addr} {oc : Nat} {ops : List Op5} (ho : Imm KOp Ωo w OA ops) (at_ : Int) :
    CallsV Try.prog 4 #[.slice OA ops.length oc, .int .i64 at_] w fun r w' => r = .bool true ∧ Ext w w' := by
  refine cardindexlaw05_UndoNested.calls okay ?_
  unfold cardindexlaw05_UndoNested.W
  refine (aNew w 4 1000 (by decide) (by decide) (by decide) (by decide)).mono ?_
  rintro _ u0 ⟨s1, T1, rfl, h1, e1, n1⟩
  refine ⟨_, _, rfl, (aNew u0 4 1000 (by decide) (by decide) (by decide) (by decide)).mono ?_⟩
  rintro _ u1 ⟨s2, T2, rfl, h2, e2, n2⟩
  have H0 := Two.start h1 e1 n1 h2 e2 n2
  have aw : ∀ {u : World}, Ext w u → CallsV Try.prog 23 #[] u fun v w' => ∃ x, v = .bool x ∧ ((fun r w' => r = Value.bool true ∧ Ext w w') (.bool x) w') := fun e => (awake_spec _).mono fun v w' ⟨h1, h2⟩ => ⟨true, h1, rfl, e.trans' h2⟩
  refine ⟨_, _, rfl, brn (fun h => absurd rfl h) fun _ => brn (fun h => absurd rfl h) fun _ => ⟨fun u => ∃ T1 T2 A D ms, Two w u T1 T2 s1 s2 ⟨A, D, ms⟩ ⟨A, D, ms⟩ ∧ ms.length ≤ 60, ?_, fun x v => ∃ j : Nat, x = (j : Int) ∧ j ≤ 60 ∧ ∃ T1 T2 A D ms, Two w v T1 T2 s1 s2 ⟨A, D, ms⟩ ⟨A, D, ms⟩ ∧ A.last ≤ j ∧ ms.length ≤ j, fun x _ => (60 - x).toNat, ⟨0, rfl, by omega, T1, T2, _, _, _, H0, by decide, by decide⟩, ?_⟩⟩
  · clear H0 h1 h2 n1 n2 e1 e2
    rintro u ⟨T1, T2, A, D, ms, H, hms⟩
    refine (sMarks H.a).same ⟨_, rfl, brd (fun _ => aw H.e) fun hne => (sMarks H.a).same ⟨_, rfl, ?_⟩⟩
    replace hne : ((ms.length : Nat) : Int) ≠ 0 := hne
    refine (Pick_spec u _ _ (by show (1 : Int) ≤ ((ms.length : Nat) : Int); omega) (by show ((ms.length : Nat) : Int) ≤ _; omega)).mono ?_
    rintro _ _ ⟨k, rfl, hk, rfl⟩
    replace hk : (k : Int) < ((ms.length : Nat) : Int) := hk
    refine ⟨_, rfl, ?_⟩
    rw [wi (1 + (k : Int)) (by omega) (by omega)]
    refine (aBack H.a _).mono ?_
    rintro _ v1 (⟨hb, _⟩ | ⟨_, _, rfl, B, D', T1', hmk, h2, c2⟩)
    · exact absurd hb (by show ¬ (1 + (k : Int) < 1 ∨ ((ms.length : Nat) : Int) < 1 + k); omega)
    have hk1 : (1 + (k : Int) - 1).toNat = k := by omega
    rw [hk1] at hmk h2
    replace hmk : ms[k]? = some (B, D') := hmk
    have H2 := H.one h2 c2
    clear h2 c2
    refine ⟨_, rfl, brn (fun h => absurd rfl h) fun _ => ⟨fun v => ∃ (i : Nat) (T1 T2 : Nat → Prop) (Ai : Ar) (Di : List Tr), Two w v T1 T2 s1 s2 ⟨B, D', ms.take k⟩ ⟨Ai, Di, ms.take i⟩ ∧ k ≤ i ∧ i ≤ ms.length ∧ (i < ms.length → ms[i]? = some (Ai, Di)), fun v => marksAt v s2, ⟨ms.length, T1', T2, A, D, by rw [List.take_of_length_le (Nat.le_refl _)]; exact H2, by omega, Nat.le_refl _, fun h => absurd h (Nat.lt_irrefl _)⟩, ?_⟩⟩
    clear H H2
    rintro v ⟨i, T1, T2, Ai, Di, H, hki, hil, hi⟩
    have hti : (ms.take i).length = i := by rw [List.length_take]; omega
    have htk : (ms.take k).length = k := by rw [List.length_take]; omega
    refine (sMarks H.b).same ⟨_, rfl, brd (fun hle => ?_) (fun hgt => ?_)⟩
    · replace hle : 1 + (k : Int) ≤ (((ms.take i).length : Nat) : Int) := hle
      rw [hti] at hle
      have hmi : ∀ {T v}, Sto T v s2 ⟨Ai, Di, ms.take i⟩ → Go.Proofs.Ythfagbfllheneaa.marksAt v s2 = i := fun h => by rw [h.marksAt]; exact hti
      refine (sMarks H.b).same ⟨_, rfl, ?_⟩
      show CallsV Try.prog 25 #[.pointer (some ⟨s2, 0, none⟩), .int .i64 (((ms.take i).length : Nat) : Int)] v _
      rw [hti]
      refine (aBack H.b _).mono ?_
      rintro _ v2 (⟨hb, _⟩ | ⟨_, _, rfl, B2, D2, T2', hm2, h3, c3⟩)
      · exact absurd hb (by show ¬ ((i : Int) < 1 ∨ (((ms.take i).length : Nat) : Int) < i); rw [hti]; omega)
      have hi1 : ((i : Int) - 1).toNat = i - 1 := by omega
      rw [hi1] at hm2 h3
      replace hm2 : (ms.take i)[i - 1]? = some (B2, D2) := hm2
      replace h3 : Sto T2' v2 s2 ⟨B2, D2, (ms.take i).take (i - 1)⟩ := h3
      rw [List.take_take, Nat.min_eq_left (by omega)] at h3
      rw [List.getElem?_take_of_lt (by omega)] at hm2
      have H3 := H.two h3 c3
      have ht1 : (ms.take (i - 1)).length = i - 1 := by rw [List.length_take]; omega
      have hmv : Go.Proofs.Ythfagbfllheneaa.marksAt v2 s2 = i - 1 := by rw [h3.marksAt]; exact ht1
      refine ⟨_, rfl, brn (fun h => absurd rfl h) fun _ => (sMarks H3.b).same ⟨_, rfl, brn (fun hne => absurd ?_ hne) fun _ => ⟨⟨i - 1, T1, T2', B2, D2, H3, by omega, by omega, fun _ => hm2⟩, ?_⟩⟩⟩
      · show (((ms.take (i - 1)).length : Nat) : Int) = _
        rw [ht1, wi _ (by omega) (by omega)]; omega
      · show Go.Proofs.Ythfagbfllheneaa.marksAt v2 s2 < Go.Proofs.Ythfagbfllheneaa.marksAt v s2
        rw [hmv, hmi H.b]; omega
    · replace hgt : ¬ 1 + (k : Int) ≤ (((ms.take i).length : Nat) : Int) := hgt
      rw [hti] at hgt
      obtain rfl : i = k := by omega
      have he := hi (by omega)
      rw [hmk] at he
      obtain ⟨rfl, rfl⟩ : B = Ai ∧ D' = Di := by have := Option.some.inj he; exact ⟨(Prod.mk.inj this).1, (Prod.mk.inj this).2⟩
      refine same_alike H fun u6 e6 => br (fun _ => (sMarks (H.a.ext e6)).same ⟨_, rfl, brd (fun _ => aw (H.e.trans' e6)) fun hne => absurd ?_ hne⟩) fun h => by cases h
      show (((ms.take i).length : Nat) : Int) = _
      rw [hti, wi _ (by omega) (by omega)]; omega
  · clear H0 h1 h2 n1 n2 e1 e2
    rintro _ v ⟨j, rfl, hj, T1, T2, A, D, ms, H, hla, hms⟩
    refine brd (fun hlt => brd (fun hlt2 => ?_) (fun _ => ⟨T1, T2, A, D, ms, H, by omega⟩)) (fun _ => ⟨T1, T2, A, D, ms, H, by omega⟩)
    have hI : Inv A D := H.a.inv
    refine ⟨fun u => ∃ T1 T2 ms, Two w u T1 T2 s1 s2 ⟨A, D, ms⟩ ⟨A, D, ms⟩ ∧ ms.length ≤ j + 1, ?_, by decide, ?_⟩
    · clear H hms
      rintro v ⟨T1, T2, ms, H, hms⟩
      have hjl : j < ops.length := by omega
      obtain ⟨ad, KA, kc, VA, vc, hOA, C⟩ := opC ho hjl
      generalize ops[j] = o at C
      have tn : ((j : Nat) : Int).toNat = j := Int.toNat_natCast j
      have C1 := C.ext H.e
      rw [tn]
      refine ⟨ad, hOA, ⟨by omega, by omega⟩, _, C1.c0, _, C1.c1, _, C1.c2, _, _, _, C1.c3, _, _, _, C1.c4, (small_spec _ _ _ _ _ _ _ _ _).mono ?_⟩
      rintro _ v1 ⟨rfl, e1⟩
      have H1 := H.ext e1
      rw [wi _ (by omega) (by omega)]
      refine ⟨_, rfl, br (fun hs => ?_) (fun hs => ⟨⟨j + 1, by omega, by omega, T1, T2, A, D, ms, H1, by omega, by omega⟩, by dsimp only; omega⟩)⟩
      have hs : smallO o = true := hs
      obtain ⟨A', D', hd⟩ := does_ex hI (by omega) hs
      have C2 := C1.ext e1
      refine ⟨ad, hOA, ⟨by omega, by omega⟩, _, C2.c0, _, C2.c1, _, C2.c2, _, _, _, C2.c3, _, _, _, C2.c4, (hd.run H1.a C2.k C2.v kc vc).mono ?_⟩
      rintro _ v2 ⟨rfl, T1', h2, c2⟩
      have H2 := H1.one h2 c2
      have C3 := C.ext H2.e
      refine ⟨rfl, ad, hOA, ⟨by omega, by omega⟩, _, C3.c0, _, C3.c1, _, C3.c2, _, _, _, C3.c3, _, _, _, C3.c4, (hd.run H2.b C3.k C3.v kc vc).mono ?_⟩
      rintro _ v4 ⟨rfl, T2'', h4, c4⟩
      have H4 := H2.two h4 c4
      have hla' := hd.done.last
      exact ⟨rfl, ⟨j + 1, by omega, by omega, _, _, A', D', ms, H4, by omega, by omega⟩, by dsimp only; omega⟩
    · refine brd (fun _ => (aMark H.a).mono ?_) fun _ => ⟨T1, T2, ms, H, by omega⟩
      rintro _ v3 (⟨hge, _⟩ | ⟨_, rfl, T1', h3, c3⟩)
      · exact absurd (show 100 ≤ ms.length from hge) (by omega)
      have H3 := H.one h3 c3
      refine ⟨_, _, rfl, (aMark H3.b).mono ?_⟩
      rintro _ v4 (⟨hge, _⟩ | ⟨_, rfl, T2', h4, c4⟩)
      · exact absurd (show 100 ≤ ms.length from hge) (by omega)
      have H4 := H3.two h4 c4
      exact ⟨_, _, rfl, _, _, _, H4, by rw [List.length_append]; show ms.length + 1 ≤ j + 1; omega⟩
/-! ## once more -/
def ShotC (T : Nat → Prop) (v : World) (q : Ab) (cs : List Value) (i : Nat) : Prop := ∃ IA inn ic LA ln lc n m, cs[i * 4]? = some (.slice IA inn ic) ∧ cs[i * 4 + 1]? = some (.slice LA ln lc) ∧ cs[i * 4 + 2]? = some (.int .i64 n) ∧ cs[i * 4 + 3]? = some (.int .i64 m) ∧ Shot T v q IA inn ic LA ln lc n m
theorem ShotC.keep {T T' : Nat → Prop} {v v' : World} {q : Ab} {cs : List Value} {i : Nat} (h : ShotC T v q cs i) (st : Step T v T' v') : ShotC T' v' q cs i := by
  obtain ⟨IA, inn, ic, LA, ln, lc, n, m, h0, h1, h2, h3, S⟩ := h
  exact ⟨IA, inn, ic, LA, ln, lc, n, m, h0, h1, h2, h3, S.keep st⟩
end Go.Proofs.Ythfagbfllheneaa
/- Layer 5: an argument of calls. -/
set_option linter.unusedVariables false
namespace Go.Proofs.Ythfagbfllheneaa
open Go Go.Sx
theorem opens_Bs : Opens Try.prog 28 KBs (fun l => l.length ≤ maxLen ∧ ∀ a ∈ l, True) := opens_slice Try.underlying28 (by kernel_rfl) KB_pos (opens_u8 Try.underlying5)
theorem opens_Op : Opens Try.prog 30 KOp (fun _ => True) := by
  intro H enc w fuel cs x hx
  obtain ⟨hl, hf⟩ := opens_fields (by kernel_rfl) hx
  have hl3 : cs.length = 5 := hl.trans (by kernel_rfl)
  obtain ⟨k, hk, _⟩ := hf (K := Kd.int .i64) 0 (ft := 3) (off := 0) (by kernel_rfl) (by kernel_rfl) (opens_int Try.underlying3)
  obtain ⟨r, hr, _⟩ := hf (K := Kd.int .i64) 1 (ft := 3) (off := 1) (by kernel_rfl) (by kernel_rfl) (opens_int Try.underlying3)
  obtain ⟨n, hn, _⟩ := hf (K := Kd.int .i64) 2 (ft := 3) (off := 2) (by kernel_rfl) (by kernel_rfl) (opens_int Try.underlying3)
  obtain ⟨a, ha, _⟩ := hf (K := KBs) 3 (ft := 28) (off := 3) (by kernel_rfl) (by kernel_rfl) opens_Bs
  obtain ⟨b, hb, _⟩ := hf (K := KBs) 4 (ft := 28) (off := 4) (by kernel_rfl) (by kernel_rfl) opens_Bs
  match cs, hl3 with
  | [c0, c1, c2, c3, c4], _ =>
    have hk : [c0] = [.int .i64 k] := hk
    have hr : [c1] = [.int .i64 r] := hr
    have hn : [c2] = [.int .i64 n] := hn
    cases hk; cases hr; cases hn
    exact ⟨⟨k, r, n, a, b⟩, ⟨_, _, rfl, ha, hb⟩, trivial⟩
end Go.Proofs.Ythfagbfllheneaa
