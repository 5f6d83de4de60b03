/- Part 8 of the texts of this claim: the engine, contracts, plain laws. -/
import Derived.Test.YthfagbfllheneaaProg
import Derived.Test.YthfagbfllheneaaZCBack5P1
import Derived.Test.YthfagbfllheneaaZCBack5P7
import Derived.Test.YthfagbfllheneaaZCBack5P6
import Derived.Test.YthfagbfllheneaaZCBack5P2
/- The preconditions of Go functions, printed by a program of this workplace (nests.py); each is proved to be the engine's own. -/
set_option linter.unusedVariables false
set_option maxRecDepth 100000
namespace Go.Proofs.Ythfagbfllheneaa
open Go Go.Sx
noncomputable def cardindexlaw05_UndoFree.W : Option Addr → Nat → Nat → World → (Value → World → Prop) → Prop := fun (ops_A : Option Addr) (ops_n ops_c : Nat) (w : World) (K : Value → World
 → Prop) => CallsV Try.prog (15 : Nat) #[Value.int IntKind.i64 (4 : Int), Value.int IntKind.i64 (1000 : Int)] w fun (v : Value) (w' : World) => ∃ (x : Option Addr),
 ∃ (x_1 : Int), v = Value.tuple #[Value.pointer x, Value.int IntKind.i64 x_1] ∧ CallsV Try.prog (15 : Nat) #[Value.int IntKind.i64 (4 : Int), Value.int
 IntKind.i64 (1000 : Int)] w' fun (v : Value) (w' : World) => ∃ (x_2 : Option Addr), ∃ (x_3 : Int), v = Value.tuple #[Value.pointer x_2, Value.int IntKind.i64 x_3] ∧ bif
 !Decidable.decide (x_1 = (0 : Int)) then K (Value.bool Bool.false) w' else bif !Decidable.decide (x_3 = (0 : Int)) then K (Value.bool Bool.false) w' else ∃ (I : Int → World → Prop), ∃ (μ : Int
 → World → Nat), I (0 : Int) w' ∧ ∀ (x_4 : Int) (w : World), I x_4 w → bif Decidable.decide (x_4 < (↑ops_n : Int)) then bif Decidable.decide (x_4 < (60 : Int)) then ∃ (ad : Addr), ops_A =
 Option.some ad ∧ ((0 : Int) ≤ x_4 ∧ x_4 < (↑ops_n : Int)) ∧ ∃ (x_5 : Int), World.cell? w (Addr.add (Addr.add ad (Int.toNat x_4 * (5 : Nat))) (0 : Nat)) = Option.some (Value.int
 IntKind.i64 x_5) ∧ ∃ (x_6 : Int), World.cell? w (Addr.add (Addr.add ad (Int.toNat x_4 * (5 : Nat))) (1 : Nat)) = Option.some (Value.int IntKind.i64 x_6) ∧ ∃ (x_7 : Int),
 World.cell? w (Addr.add (Addr.add ad (Int.toNat x_4 * (5 : Nat))) (2 : Nat)) = Option.some (Value.int IntKind.i64 x_7) ∧ ∃ (x_8 : Option Addr), ∃ (x_9 : Nat), ∃ (x_10 : Nat),
 World.cell? w (Addr.add (Addr.add ad (Int.toNat x_4 * (5 : Nat))) (3 : Nat)) = Option.some (Value.slice x_8 x_9 x_10) ∧ ∃ (x_11 : Option Addr), ∃ (x_12 : Nat), ∃ (x_13 : Nat),
 World.cell? w (Addr.add (Addr.add ad (Int.toNat x_4 * (5 : Nat))) (4 : Nat)) = Option.some (Value.slice x_11 x_12 x_13) ∧ CallsV Try.prog (16 : Nat) #[Value.agg
 #[Value.int IntKind.i64 x_5, Value.int IntKind.i64 x_6, Value.int IntKind.i64 x_7, Value.slice x_8 x_9 x_10, Value.slice x_11 x_12 x_13]] w fun (v : Value) (w' : World) =>
 ∃ (x_14 : Bool), v = Value.bool x_14 ∧ bif !x_14 then I (IntKind.wrap IntKind.i64 (x_4 + (1 : Int))) w' ∧ μ (IntKind.wrap IntKind.i64 (x_4 + (1 : Int))) w' < μ x_4 w else ∃ (ad :
 Addr), ops_A = Option.some ad ∧ ((0 : Int) ≤ x_4 ∧ x_4 < (↑ops_n : Int)) ∧ ∃ (x_15 : Int), World.cell? w' (Addr.add (Addr.add ad (Int.toNat x_4 * (5 : Nat))) (0 : Nat)) = Option.some
 (Value.int IntKind.i64 x_15) ∧ ∃ (x_16 : Int), World.cell? w' (Addr.add (Addr.add ad (Int.toNat x_4 * (5 : Nat))) (1 : Nat)) = Option.some (Value.int IntKind.i64 x_16) ∧ ∃ (x_17 :
 Int), World.cell? w' (Addr.add (Addr.add ad (Int.toNat x_4 * (5 : Nat))) (2 : Nat)) = Option.some (Value.int IntKind.i64 x_17) ∧ ∃ (x_18 : Option Addr), ∃ (x_19 : Nat), ∃ (x_20 :
 Nat), World.cell? w' (Addr.add (Addr.add ad (Int.toNat x_4 * (5 : Nat))) (3 : Nat)) = Option.some (Value.slice x_18 x_19 x_20) ∧ ∃ (x_21 : Option Addr), ∃ (x_22 : Nat), ∃ (x_23 : Nat),
 World.cell? w' (Addr.add (Addr.add ad (Int.toNat x_4 * (5 : Nat))) (4 : Nat)) = Option.some (Value.slice x_21 x_22 x_23) ∧ CallsV Try.prog (17 : Nat) #[Value.pointer x,
 Value.agg #[Value.int IntKind.i64 x_15, Value.int IntKind.i64 x_16, Value.int IntKind.i64 x_17, Value.slice x_18 x_19 x_20, Value.slice x_21 x_22 x_23]] w' fun (v : Value)
 (w' : World) => v = Value.tuple #[] ∧ CallsV Try.prog (18 : Nat) #[Value.pointer x_2] w' fun (v : Value) (w' : World) => ∃ (x_24 : Int), ∃ (x_25 : Int), v =
 Value.tuple #[Value.int IntKind.i64 x_24, Value.int IntKind.i64 x_25] ∧ ∃ (ad : Addr), ops_A = Option.some ad ∧ ((0 : Int) ≤ x_4 ∧ x_4 < (↑ops_n : Int)) ∧ ∃ (x_26 : Int),
 World.cell? w' (Addr.add (Addr.add ad (Int.toNat x_4 * (5 : Nat))) (0 : Nat)) = Option.some (Value.int IntKind.i64 x_26) ∧ ∃ (x_27 : Int), World.cell? w' (Addr.add (Addr.add ad
 (Int.toNat x_4 * (5 : Nat))) (1 : Nat)) = Option.some (Value.int IntKind.i64 x_27) ∧ ∃ (x_28 : Int), World.cell? w' (Addr.add (Addr.add ad (Int.toNat x_4 * (5 : Nat))) (2 : Nat)) =
 Option.some (Value.int IntKind.i64 x_28) ∧ ∃ (x_29 : Option Addr), ∃ (x_30 : Nat), ∃ (x_31 : Nat), World.cell? w' (Addr.add (Addr.add ad (Int.toNat x_4 * (5 : Nat))) (3 : Nat)) =
 Option.some (Value.slice x_29 x_30 x_31) ∧ ∃ (x_32 : Option Addr), ∃ (x_33 : Nat), ∃ (x_34 : Nat), World.cell? w' (Addr.add (Addr.add ad (Int.toNat x_4 * (5 : Nat))) (4 : Nat)) =
 Option.some (Value.slice x_32 x_33 x_34) ∧ CallsV Try.prog (17 : Nat) #[Value.pointer x_2, Value.agg #[Value.int IntKind.i64 x_26, Value.int IntKind.i64 x_27,
 Value.int IntKind.i64 x_28, Value.slice x_29 x_30 x_31, Value.slice x_32 x_33 x_34]] w' fun (v : Value) (w' : World) => v = Value.tuple #[] ∧ bif !Decidable.decide (x_25 = (0 :
 Int)) then K (Value.bool Bool.false) w' else ∃ (J : World → Prop), (∀ (w_1 : World), J w_1 → CallsV Try.prog (22 : Nat) #[Value.pointer x] w_1 fun (v : Value) (w' :
 World) => ∃ (x : Option Addr), ∃ (x_35 : Nat), ∃ (x_36 : Nat), ∃ (x_37 : Option Addr), ∃ (x_38 : Nat), ∃ (x_39 : Nat), ∃ (x_40 : Int), ∃ (x_41 : Int), v = Value.agg #[Value.slice x x_35
 x_36, Value.slice x_37 x_38 x_39, Value.int IntKind.i64 x_40, Value.int IntKind.i64 x_41] ∧ CallsV Try.prog (22 : Nat) #[Value.pointer x_2] w' fun (v : Value) (w' :
 World) => ∃ (x_42 : Option Addr), ∃ (x_43 : Nat), ∃ (x_44 : Nat), ∃ (x_45 : Option Addr), ∃ (x_46 : Nat), ∃ (x_47 : Nat), ∃ (x_48 : Int), ∃ (x_49 : Int), v = Value.agg #[Value.slice x_42
 x_43 x_44, Value.slice x_45 x_46 x_47, Value.int IntKind.i64 x_48, Value.int IntKind.i64 x_49] ∧ CallsV Try.prog (21 : Nat) #[Value.agg #[Value.slice x x_35 x_36,
 Value.slice x_37 x_38 x_39, Value.int IntKind.i64 x_40, Value.int IntKind.i64 x_41], Value.agg #[Value.slice x_42 x_43 x_44, Value.slice x_45 x_46 x_47, Value.int
 IntKind.i64 x_48, Value.int IntKind.i64 x_49]] w' fun (v : Value) (w' : World) => ∃ (x : Bool), v = Value.bool x ∧ bif !x then K (Value.bool Bool.false) w' else I (IntKind.wrap
 IntKind.i64 (x_4 + (1 : Int))) w' ∧ μ (IntKind.wrap IntKind.i64 (x_4 + (1 : Int))) w' < μ x_4 w) ∧ ∃ (ad : Addr), ops_A = Option.some ad ∧ ((0 : Int) ≤ x_4 ∧ x_4 < (↑ops_n : Int)) ∧ ∃ (x :
 Int), World.cell? w' (Addr.add (Addr.add ad (Int.toNat x_4 * (5 : Nat))) (2 : Nat)) = Option.some (Value.int IntKind.i64 x) ∧ (3 : Int) ≠ (0 : Int) ∧ bif !Decidable.decide (Int.tmod x (3
 : Int) = (0 : Int)) then ∃ (ad : Addr), ops_A = Option.some ad ∧ ((0 : Int) ≤ x_4 ∧ x_4 < (↑ops_n : Int)) ∧ ∃ (x : Int), World.cell? w' (Addr.add (Addr.add ad (Int.toNat x_4 * (5 : Nat)))
 (2 : Nat)) = Option.some (Value.int IntKind.i64 x) ∧ CallsV Try.prog (20 : Nat) #[Value.int IntKind.i64 x, Value.int IntKind.i64 x_24] w' fun (v : Value) (w' :
 World) => ∃ (x : Int), v = Value.int IntKind.i64 x ∧ CallsV Try.prog (19 : Nat) #[Value.pointer x_2, Value.int IntKind.i64 (IntKind.wrap IntKind.i64 ((1 : Int) +
 x))] w' fun (v : Value) (w' : World) => ∃ (x : Int), v = Value.int IntKind.i64 x ∧ bif !Decidable.decide (x = (0 : Int)) then K (Value.bool Bool.false) w' else J w' else J w' else
 CallsV Try.prog (23 : Nat) #[] w fun (v : Value) (w' : World) => ∃ (x : Bool), v = Value.bool x ∧ K (Value.bool x) w' else CallsV Try.prog (23 : Nat) #[] w
 fun (v : Value) (w' : World) => ∃ (x : Bool), v = Value.bool x ∧ K (Value.bool x) w'
theorem cardindexlaw05_UndoFree.eq (ops_A : Option Addr) (ops_n : Nat) (ops_c : Nat) (w : World) (K : Value → World → Prop) : cardindexlaw05_UndoFree.W ops_A ops_n ops_c w K = fnW Try.prog Try.f3 (.named (.seq .auto (.seq .auto (.seq .auto (.seq .auto (.seq (.seq .auto (.block (.loop [(7, .one (.int .i64))] (.seq .auto (.seq (.block (.seq .auto (.seq .auto (.seq .auto (.seq .auto (.seq .auto (.join [] .auto .auto))))))) .auto))))) .auto)))))) [.slice ops_A ops_n ops_c] w K := by kernel_rfl
theorem cardindexlaw05_UndoFree.calls (ok : Okay Try.prog) {ops_A : Option Addr} {ops_n : Nat} {ops_c : Nat} {w : World} {K : Value → World → Prop} (h : cardindexlaw05_UndoFree.W ops_A ops_n ops_c w K) : CallsV Try.prog 3 #[.slice ops_A ops_n ops_c] w K :=
  fnW_calls ok Try.func3 (an := (.named (.seq .auto (.seq .auto (.seq .auto (.seq .auto (.seq (.seq .auto (.block (.loop [(7, .one (.int .i64))] (.seq .auto (.seq (.block (.seq .auto (.seq .auto (.seq .auto (.seq .auto (.seq .auto (.join [] .auto .auto))))))) .auto))))) .auto))))))) (args := [.slice ops_A ops_n ops_c]) (by rw [← cardindexlaw05_UndoFree.eq]; exact h)
noncomputable def cardindexlaw05_UndoNested.W : Option Addr → Nat → Nat → Int → World → (Value → World → Prop) → Prop := fun (ops_A : Option Addr) (ops_n ops_c : Nat) (to : Int) (w : World) (K :
 Value → World → Prop) => CallsV Try.prog (15 : Nat) #[Value.int IntKind.i64 (4 : Int), Value.int IntKind.i64 (1000 : Int)] w fun (v : Value) (w' : World) => ∃ (x
 : Option Addr), ∃ (x_1 : Int), v = Value.tuple #[Value.pointer x, Value.int IntKind.i64 x_1] ∧ CallsV Try.prog (15 : Nat) #[Value.int IntKind.i64 (4 : Int),
 Value.int IntKind.i64 (1000 : Int)] w' fun (v : Value) (w' : World) => ∃ (x_2 : Option Addr), ∃ (x_3 : Int), v = Value.tuple #[Value.pointer x_2, Value.int IntKind.i64 x_3] ∧
 bif !Decidable.decide (x_1 = (0 : Int)) then K (Value.bool Bool.false) w' else bif !Decidable.decide (x_3 = (0 : Int)) then K (Value.bool Bool.false) w' else ∃ (J : World → Prop), (∀ (w :
 World), J w → CallsV Try.prog (24 : Nat) #[Value.pointer x] w fun (v : Value) (w' : World) => ∃ (x_4 : Int), v = Value.int IntKind.i64 x_4 ∧ bif Decidable.decide (x_4
 = (0 : Int)) then CallsV Try.prog (23 : Nat) #[] w' fun (v : Value) (w' : World) => ∃ (x : Bool), v = Value.bool x ∧ K (Value.bool x) w' else CallsV Try.prog
 (24 : Nat) #[Value.pointer x] w' fun (v : Value) (w' : World) => ∃ (x_5 : Int), v = Value.int IntKind.i64 x_5 ∧ CallsV Try.prog (20 : Nat) #[Value.int IntKind.i64
 to, Value.int IntKind.i64 x_5] w' fun (v : Value) (w' : World) => ∃ (x_6 : Int), v = Value.int IntKind.i64 x_6 ∧ CallsV Try.prog (25 : Nat) #[Value.pointer x,
 Value.int IntKind.i64 (IntKind.wrap IntKind.i64 ((1 : Int) + x_6))] w' fun (v : Value) (w' : World) => ∃ (x_7 : Int), v = Value.int IntKind.i64 x_7 ∧ bif !Decidable.decide (x_7
 = (0 : Int)) then K (Value.bool Bool.false) w' else ∃ (I : World → Prop), ∃ (μ : World → Nat), I w' ∧ ∀ (w : World), I w → CallsV Try.prog (24 : Nat) #[Value.pointer x_2]
 w fun (v : Value) (w' : World) => ∃ (x_8 : Int), v = Value.int IntKind.i64 x_8 ∧ bif Decidable.decide (IntKind.wrap IntKind.i64 ((1 : Int) + x_6) ≤ x_8) then CallsV
 Try.prog (24 : Nat) #[Value.pointer x_2] w' fun (v : Value) (w' : World) => ∃ (x : Int), v = Value.int IntKind.i64 x ∧ CallsV Try.prog (25 : Nat)
 #[Value.pointer x_2, Value.int IntKind.i64 x] w' fun (v : Value) (w' : World) => ∃ (x_9 : Int), v = Value.int IntKind.i64 x_9 ∧ bif !Decidable.decide (x_9 = (0 : Int)) then K
 (Value.bool Bool.false) w' else CallsV Try.prog (24 : Nat) #[Value.pointer x_2] w' fun (v : Value) (w' : World) => ∃ (x_10 : Int), v = Value.int IntKind.i64 x_10 ∧ bif
 !Decidable.decide (x_10 = IntKind.wrap IntKind.i64 (x - (1 : Int))) then K (Value.bool Bool.false) w' else I w' ∧ μ w' < μ w else CallsV Try.prog (22 : Nat) #[Value.pointer
 x] w' fun (v : Value) (w' : World) => ∃ (x_9 : Option Addr), ∃ (x_10 : Nat), ∃ (x_11 : Nat), ∃ (x_12 : Option Addr), ∃ (x_13 : Nat), ∃ (x_14 : Nat), ∃ (x_15 : Int), ∃ (x_16 : Int), v =
 Value.agg #[Value.slice x_9 x_10 x_11, Value.slice x_12 x_13 x_14, Value.int IntKind.i64 x_15, Value.int IntKind.i64 x_16] ∧ CallsV Try.prog (22 : Nat)
 #[Value.pointer x_2] w' fun (v : Value) (w' : World) => ∃ (x_17 : Option Addr), ∃ (x_18 : Nat), ∃ (x_19 : Nat), ∃ (x_20 : Option Addr), ∃ (x_21 : Nat), ∃ (x_22 : Nat), ∃ (x_23 : Int), ∃
 (x_24 : Int), v = Value.agg #[Value.slice x_17 x_18 x_19, Value.slice x_20 x_21 x_22, Value.int IntKind.i64 x_23, Value.int IntKind.i64 x_24] ∧ CallsV Try.prog (21
 : Nat) #[Value.agg #[Value.slice x_9 x_10 x_11, Value.slice x_12 x_13 x_14, Value.int IntKind.i64 x_15, Value.int IntKind.i64 x_16], Value.agg #[Value.slice x_17 x_18 x_19,
 Value.slice x_20 x_21 x_22, Value.int IntKind.i64 x_23, Value.int IntKind.i64 x_24]] w' fun (v : Value) (w' : World) => ∃ (x_25 : Bool), v = Value.bool x_25 ∧ bif x_25 then
 CallsV Try.prog (24 : Nat) #[Value.pointer x] w' fun (v : Value) (w' : World) => ∃ (x : Int), v = Value.int IntKind.i64 x ∧ bif Decidable.decide (x = IntKind.wrap
 IntKind.i64 (IntKind.wrap IntKind.i64 ((1 : Int) + x_6) - (1 : Int))) then CallsV Try.prog (23 : Nat) #[] w' fun (v : Value) (w' : World) => ∃ (x : Bool), v =
 Value.bool x ∧ K (Value.bool x) w' else K (Value.bool Bool.false) w' else K (Value.bool Bool.false) w') ∧ ∃ (I : Int → World → Prop), ∃ (μ : Int → World → Nat), I (0 : Int) w' ∧ ∀
 (x_4 : Int) (w : World), I x_4 w → bif Decidable.decide (x_4 < (↑ops_n : Int)) then bif Decidable.decide (x_4 < (60 : Int)) then ∃ (J : World → Prop), (∀ (w_1 : World), J w_1 → ∃ (ad :
 Addr), ops_A = Option.some ad ∧ ((0 : Int) ≤ x_4 ∧ x_4 < (↑ops_n : Int)) ∧ ∃ (x_5 : Int), World.cell? w_1 (Addr.add (Addr.add ad (Int.toNat x_4 * (5 : Nat))) (0 : Nat)) = Option.some
 (Value.int IntKind.i64 x_5) ∧ ∃ (x_6 : Int), World.cell? w_1 (Addr.add (Addr.add ad (Int.toNat x_4 * (5 : Nat))) (1 : Nat)) = Option.some (Value.int IntKind.i64 x_6) ∧ ∃ (x_7 :
 Int), World.cell? w_1 (Addr.add (Addr.add ad (Int.toNat x_4 * (5 : Nat))) (2 : Nat)) = Option.some (Value.int IntKind.i64 x_7) ∧ ∃ (x_8 : Option Addr), ∃ (x_9 : Nat), ∃ (x_10 : Nat),
 World.cell? w_1 (Addr.add (Addr.add ad (Int.toNat x_4 * (5 : Nat))) (3 : Nat)) = Option.some (Value.slice x_8 x_9 x_10) ∧ ∃ (x_11 : Option Addr), ∃ (x_12 : Nat), ∃ (x_13 : Nat),
 World.cell? w_1 (Addr.add (Addr.add ad (Int.toNat x_4 * (5 : Nat))) (4 : Nat)) = Option.some (Value.slice x_11 x_12 x_13) ∧ CallsV Try.prog (16 : Nat) #[Value.agg
 #[Value.int IntKind.i64 x_5, Value.int IntKind.i64 x_6, Value.int IntKind.i64 x_7, Value.slice x_8 x_9 x_10, Value.slice x_11 x_12 x_13]] w_1 fun (v : Value) (w' : World)
 => ∃ (x_14 : Bool), v = Value.bool x_14 ∧ bif x_14 then ∃ (ad : Addr), ops_A = Option.some ad ∧ ((0 : Int) ≤ x_4 ∧ x_4 < (↑ops_n : Int)) ∧ ∃ (x_15 : Int), World.cell? w' (Addr.add
 (Addr.add ad (Int.toNat x_4 * (5 : Nat))) (0 : Nat)) = Option.some (Value.int IntKind.i64 x_15) ∧ ∃ (x_16 : Int), World.cell? w' (Addr.add (Addr.add ad (Int.toNat x_4 * (5 : Nat))) (1
 : Nat)) = Option.some (Value.int IntKind.i64 x_16) ∧ ∃ (x_17 : Int), World.cell? w' (Addr.add (Addr.add ad (Int.toNat x_4 * (5 : Nat))) (2 : Nat)) = Option.some (Value.int
 IntKind.i64 x_17) ∧ ∃ (x_18 : Option Addr), ∃ (x_19 : Nat), ∃ (x_20 : Nat), World.cell? w' (Addr.add (Addr.add ad (Int.toNat x_4 * (5 : Nat))) (3 : Nat)) = Option.some (Value.slice
 x_18 x_19 x_20) ∧ ∃ (x_21 : Option Addr), ∃ (x_22 : Nat), ∃ (x_23 : Nat), World.cell? w' (Addr.add (Addr.add ad (Int.toNat x_4 * (5 : Nat))) (4 : Nat)) = Option.some (Value.slice x_21
 x_22 x_23) ∧ CallsV Try.prog (17 : Nat) #[Value.pointer x, Value.agg #[Value.int IntKind.i64 x_15, Value.int IntKind.i64 x_16, Value.int IntKind.i64 x_17,
 Value.slice x_18 x_19 x_20, Value.slice x_21 x_22 x_23]] w' fun (v : Value) (w' : World) => v = Value.tuple #[] ∧ ∃ (ad : Addr), ops_A = Option.some ad ∧ ((0 : Int) ≤ x_4 ∧ x_4 <
 (↑ops_n : Int)) ∧ ∃ (x : Int), World.cell? w' (Addr.add (Addr.add ad (Int.toNat x_4 * (5 : Nat))) (0 : Nat)) = Option.some (Value.int IntKind.i64 x) ∧ ∃ (x_24 : Int), World.cell? w'
 (Addr.add (Addr.add ad (Int.toNat x_4 * (5 : Nat))) (1 : Nat)) = Option.some (Value.int IntKind.i64 x_24) ∧ ∃ (x_25 : Int), World.cell? w' (Addr.add (Addr.add ad (Int.toNat x_4 *
 (5 : Nat))) (2 : Nat)) = Option.some (Value.int IntKind.i64 x_25) ∧ ∃ (x_26 : Option Addr), ∃ (x_27 : Nat), ∃ (x_28 : Nat), World.cell? w' (Addr.add (Addr.add ad (Int.toNat x_4 * (5 :
 Nat))) (3 : Nat)) = Option.some (Value.slice x_26 x_27 x_28) ∧ ∃ (x_29 : Option Addr), ∃ (x_30 : Nat), ∃ (x_31 : Nat), World.cell? w' (Addr.add (Addr.add ad (Int.toNat x_4 * (5 : Nat)))
 (4 : Nat)) = Option.some (Value.slice x_29 x_30 x_31) ∧ CallsV Try.prog (17 : Nat) #[Value.pointer x_2, Value.agg #[Value.int IntKind.i64 x, Value.int IntKind.i64
 x_24, Value.int IntKind.i64 x_25, Value.slice x_26 x_27 x_28, Value.slice x_29 x_30 x_31]] w' fun (v : Value) (w' : World) => v = Value.tuple #[] ∧ I (IntKind.wrap
 IntKind.i64 (x_4 + (1 : Int))) w' ∧ μ (IntKind.wrap IntKind.i64 (x_4 + (1 : Int))) w' < μ x_4 w else I (IntKind.wrap IntKind.i64 (x_4 + (1 : Int))) w' ∧ μ (IntKind.wrap IntKind.i64
 (x_4 + (1 : Int))) w' < μ x_4 w) ∧ (3 : Int) ≠ (0 : Int) ∧ bif Decidable.decide (Int.tmod x_4 (3 : Int) = (0 : Int)) then CallsV Try.prog (18 : Nat) #[Value.pointer x] w fun (v :
 Value) (w' : World) => ∃ (x : Int), ∃ (x_5 : Int), v = Value.tuple #[Value.int IntKind.i64 x, Value.int IntKind.i64 x_5] ∧ CallsV Try.prog (18 : Nat)
 #[Value.pointer x_2] w' fun (v : Value) (w' : World) => ∃ (x : Int), ∃ (x_6 : Int), v = Value.tuple #[Value.int IntKind.i64 x, Value.int IntKind.i64 x_6] ∧ J w' else J w else J
 w else J w
theorem cardindexlaw05_UndoNested.eq (ops_A : Option Addr) (ops_n : Nat) (ops_c : Nat) (to : Int) (w : World) (K : Value → World → Prop) : cardindexlaw05_UndoNested.W ops_A ops_n ops_c to w K = fnW Try.prog Try.f4 (.named (.seq .auto (.seq .auto (.seq .auto (.seq .auto (.join [] (.seq .auto (.block (.loop [(9, .one (.int .i64))] (.seq .auto (.seq (.block (.join [] .auto .auto)) .auto))))) (.seq .auto (.seq .auto (.seq .auto (.seq (.block (.loop [] .auto)) .auto)))))))))) [.slice ops_A ops_n ops_c, .int .i64 to] w K := by kernel_rfl
theorem cardindexlaw05_UndoNested.calls (ok : Okay Try.prog) {ops_A : Option Addr} {ops_n : Nat} {ops_c : Nat} {to : Int} {w : World} {K : Value → World → Prop} (h : cardindexlaw05_UndoNested.W ops_A ops_n ops_c to w K) : CallsV Try.prog 4 #[.slice ops_A ops_n ops_c, .int .i64 to] w K :=
  fnW_calls ok Try.func4 (an := (.named (.seq .auto (.seq .auto (.seq .auto (.seq .auto (.join [] (.seq .auto (.block (.loop [(9, .one (.int .i64))] (.seq .auto (.seq (.block (.join [] .auto .auto)) .auto))))) (.seq .auto (.seq .auto (.seq .auto (.seq (.block (.loop [] .auto)) .auto))))))))))) (args := [.slice ops_A ops_n ops_c, .int .i64 to]) (by rw [← cardindexlaw05_UndoNested.eq]; exact h)
noncomputable def cardindexlaw05_UndoAgain.W : Option Addr → Nat → Nat → Option Addr → Nat → Nat → World → (Value → World → Prop) → Prop := fun (ahead_A : Option Addr) (ahead_n ahead_c : Nat) (ops_A
 : Option Addr) (ops_n ops_c : Nat) (w : World) (K : Value → World → Prop) => CallsV Try.prog (15 : Nat) #[Value.int IntKind.i64 (4 : Int), Value.int IntKind.i64
 (200 : Int)] w fun (v : Value) (w' : World) => ∃ (x : Option Addr), ∃ (x_1 : Int), v = Value.tuple #[Value.pointer x, Value.int IntKind.i64 x_1] ∧ bif !Decidable.decide (x_1 = (0 :
 Int)) then K (Value.bool Bool.false) w' else ∃ (J : World → Prop), (∀ (w : World), J w → ∀ (g : Nat) (w' : World), Fresh w g w' [Value.slice Option.none (0 : Nat) (0 : Nat),
 Value.slice Option.none (0 : Nat) (0 : Nat), Value.int IntKind.i64 (0 : Int), Value.int IntKind.i64 (0 : Int), Value.slice Option.none (0 : Nat) (0 : Nat), Value.slice Option.none
 (0 : Nat) (0 : Nat), Value.int IntKind.i64 (0 : Int), Value.int IntKind.i64 (0 : Int)] (46 : Nat) → ∃ (I : Int → World → Prop), ∃ (μ : Int → World → Nat), I (0 : Int) w' ∧ ∀ (x_2 :
 Int) (w : World), I x_2 w → bif Decidable.decide (x_2 < (2 : Int)) then CallsV Try.prog (18 : Nat) #[Value.pointer x] w fun (v : Value) (w' : World) => ∃ (x_3 : Int), ∃ (x_4
 : Int), v = Value.tuple #[Value.int IntKind.i64 x_3, Value.int IntKind.i64 x_4] ∧ bif !Decidable.decide (x_4 = (0 : Int)) then K (Value.bool Bool.false) w' else bif !Decidable.decide
 (x_3 = (1 : Int)) then K (Value.bool Bool.false) w' else ∃ (J : World → Prop), (∀ (w_1 : World), J w_1 → CallsV Try.prog (22 : Nat) #[Value.pointer x] w_1 fun (v : Value)
 (w' : World) => ∃ (x_5 : Option Addr), ∃ (x_6 : Nat), ∃ (x_7 : Nat), ∃ (x_8 : Option Addr), ∃ (x_9 : Nat), ∃ (x_10 : Nat), ∃ (x_11 : Int), ∃ (x_12 : Int), v = Value.agg #[Value.slice x_5
 x_6 x_7, Value.slice x_8 x_9 x_10, Value.int IntKind.i64 x_11, Value.int IntKind.i64 x_12] ∧ ((0 : Int) ≤ x_2 ∧ x_2 < (↑(2 : Nat) : Int)) ∧ stOK (Addr.add (Addr.mk g (0 :
 Nat) Option.none) (Int.toNat x_2 * (4 : Nat))) (0 : Nat) [Value.slice x_5 x_6 x_7, Value.slice x_8 x_9 x_10, Value.int IntKind.i64 x_11, Value.int IntKind.i64 x_12] w' ∧ ∀ (w'_1 :
 World), w'_1 = setAll (Addr.add (Addr.mk g (0 : Nat) Option.none) (Int.toNat x_2 * (4 : Nat))) (0 : Nat) [Value.slice x_5 x_6 x_7, Value.slice x_8 x_9 x_10, Value.int
 IntKind.i64 x_11, Value.int IntKind.i64 x_12] w' → CallsV Try.prog (25 : Nat) #[Value.pointer x, Value.int IntKind.i64 (1 : Int)] w'_1 fun (v : Value) (w' :
 World) => ∃ (x : Int), v = Value.int IntKind.i64 x ∧ bif !Decidable.decide (x = (0 : Int)) then K (Value.bool Bool.false) w' else I (IntKind.wrap IntKind.i64 (x_2 + (1 : Int))) w' ∧ μ
 (IntKind.wrap IntKind.i64 (x_2 + (1 : Int))) w' < μ x_2 w) ∧ ∃ (I : Int → World → Prop), ∃ (μ : Int → World → Nat), I (0 : Int) w' ∧ ∀ (x_5 : Int) (w : World), I x_5 w → bif
 Decidable.decide (x_5 < (↑ops_n : Int)) then bif Decidable.decide (x_5 < (40 : Int)) then ∃ (ad : Addr), ops_A = Option.some ad ∧ ((0 : Int) ≤ x_5 ∧ x_5 < (↑ops_n : Int)) ∧ ∃ (x_6 : Int),
 World.cell? w (Addr.add (Addr.add ad (Int.toNat x_5 * (5 : Nat))) (0 : Nat)) = Option.some (Value.int IntKind.i64 x_6) ∧ ∃ (x_7 : Int), World.cell? w (Addr.add (Addr.add ad
 (Int.toNat x_5 * (5 : Nat))) (1 : Nat)) = Option.some (Value.int IntKind.i64 x_7) ∧ ∃ (x_8 : Int), World.cell? w (Addr.add (Addr.add ad (Int.toNat x_5 * (5 : Nat))) (2 : Nat)) =
 Option.some (Value.int IntKind.i64 x_8) ∧ ∃ (x_9 : Option Addr), ∃ (x_10 : Nat), ∃ (x_11 : Nat), World.cell? w (Addr.add (Addr.add ad (Int.toNat x_5 * (5 : Nat))) (3 : Nat)) =
 Option.some (Value.slice x_9 x_10 x_11) ∧ ∃ (x_12 : Option Addr), ∃ (x_13 : Nat), ∃ (x_14 : Nat), World.cell? w (Addr.add (Addr.add ad (Int.toNat x_5 * (5 : Nat))) (4 : Nat)) =
 Option.some (Value.slice x_12 x_13 x_14) ∧ CallsV Try.prog (16 : Nat) #[Value.agg #[Value.int IntKind.i64 x_6, Value.int IntKind.i64 x_7, Value.int IntKind.i64
 x_8, Value.slice x_9 x_10 x_11, Value.slice x_12 x_13 x_14]] w fun (v : Value) (w' : World) => ∃ (x_15 : Bool), v = Value.bool x_15 ∧ bif x_15 then ∃ (ad : Addr), ops_A = Option.some
 ad ∧ ((0 : Int) ≤ x_5 ∧ x_5 < (↑ops_n : Int)) ∧ ∃ (x_16 : Int), World.cell? w' (Addr.add (Addr.add ad (Int.toNat x_5 * (5 : Nat))) (0 : Nat)) = Option.some (Value.int IntKind.i64 x_16) ∧
 ∃ (x_17 : Int), World.cell? w' (Addr.add (Addr.add ad (Int.toNat x_5 * (5 : Nat))) (1 : Nat)) = Option.some (Value.int IntKind.i64 x_17) ∧ ∃ (x_18 : Int), World.cell? w' (Addr.add
 (Addr.add ad (Int.toNat x_5 * (5 : Nat))) (2 : Nat)) = Option.some (Value.int IntKind.i64 x_18) ∧ ∃ (x_19 : Option Addr), ∃ (x_20 : Nat), ∃ (x_21 : Nat), World.cell? w' (Addr.add
 (Addr.add ad (Int.toNat x_5 * (5 : Nat))) (3 : Nat)) = Option.some (Value.slice x_19 x_20 x_21) ∧ ∃ (x_22 : Option Addr), ∃ (x_23 : Nat), ∃ (x_24 : Nat), World.cell? w' (Addr.add
 (Addr.add ad (Int.toNat x_5 * (5 : Nat))) (4 : Nat)) = Option.some (Value.slice x_22 x_23 x_24) ∧ CallsV Try.prog (17 : Nat) #[Value.pointer x, Value.agg #[Value.int
 IntKind.i64 x_16, Value.int IntKind.i64 x_17, Value.int IntKind.i64 x_18, Value.slice x_19 x_20 x_21, Value.slice x_22 x_23 x_24]] w' fun (v : Value) (w' : World) => v =
 Value.tuple #[] ∧ I (IntKind.wrap IntKind.i64 (x_5 + (1 : Int))) w' ∧ μ (IntKind.wrap IntKind.i64 (x_5 + (1 : Int))) w' < μ x_5 w else I (IntKind.wrap IntKind.i64 (x_5 + (1 :
 Int))) w' ∧ μ (IntKind.wrap IntKind.i64 (x_5 + (1 : Int))) w' < μ x_5 w else J w else J w else ((0 : Int) ≤ (0 : Int) ∧ (0 : Int) < (↑(2 : Nat) : Int)) ∧ ∃ (x : Option Addr), ∃ (x_3 : Nat), ∃
 (x_4 : Nat), World.cell? w (Addr.add (Addr.add (Addr.mk g (0 : Nat) Option.none) (Int.toNat (0 : Int) * (4 : Nat))) (0 : Nat)) = Option.some (Value.slice x x_3 x_4) ∧ ∃ (x_5 : Option
 Addr), ∃ (x_6 : Nat), ∃ (x_7 : Nat), World.cell? w (Addr.add (Addr.add (Addr.mk g (0 : Nat) Option.none) (Int.toNat (0 : Int) * (4 : Nat))) (1 : Nat)) = Option.some (Value.slice x_5
 x_6 x_7) ∧ ∃ (x_8 : Int), World.cell? w (Addr.add (Addr.add (Addr.mk g (0 : Nat) Option.none) (Int.toNat (0 : Int) * (4 : Nat))) (2 : Nat)) = Option.some (Value.int IntKind.i64 x_8) ∧
 ∃ (x_9 : Int), World.cell? w (Addr.add (Addr.add (Addr.mk g (0 : Nat) Option.none) (Int.toNat (0 : Int) * (4 : Nat))) (3 : Nat)) = Option.some (Value.int IntKind.i64 x_9) ∧ ((0 : Int)
 ≤ (1 : Int) ∧ (1 : Int) < (↑(2 : Nat) : Int)) ∧ ∃ (x_10 : Option Addr), ∃ (x_11 : Nat), ∃ (x_12 : Nat), World.cell? w (Addr.add (Addr.add (Addr.mk g (0 : Nat) Option.none) (Int.toNat (1
 : Int) * (4 : Nat))) (0 : Nat)) = Option.some (Value.slice x_10 x_11 x_12) ∧ ∃ (x_13 : Option Addr), ∃ (x_14 : Nat), ∃ (x_15 : Nat), World.cell? w (Addr.add (Addr.add (Addr.mk g (0 :
 Nat) Option.none) (Int.toNat (1 : Int) * (4 : Nat))) (1 : Nat)) = Option.some (Value.slice x_13 x_14 x_15) ∧ ∃ (x_16 : Int), World.cell? w (Addr.add (Addr.add (Addr.mk g (0 : Nat)
 Option.none) (Int.toNat (1 : Int) * (4 : Nat))) (2 : Nat)) = Option.some (Value.int IntKind.i64 x_16) ∧ ∃ (x_17 : Int), World.cell? w (Addr.add (Addr.add (Addr.mk g (0 : Nat)
 Option.none) (Int.toNat (1 : Int) * (4 : Nat))) (3 : Nat)) = Option.some (Value.int IntKind.i64 x_17) ∧ CallsV Try.prog (21 : Nat) #[Value.agg #[Value.slice x x_3 x_4,
 Value.slice x_5 x_6 x_7, Value.int IntKind.i64 x_8, Value.int IntKind.i64 x_9], Value.agg #[Value.slice x_10 x_11 x_12, Value.slice x_13 x_14 x_15, Value.int IntKind.i64
 x_16, Value.int IntKind.i64 x_17]] w fun (v : Value) (w' : World) => ∃ (x : Bool), v = Value.bool x ∧ bif x then CallsV Try.prog (23 : Nat) #[] w' fun (v : Value) (w'
 : World) => ∃ (x : Bool), v = Value.bool x ∧ K (Value.bool x) w' else K (Value.bool Bool.false) w') ∧ ∃ (I : Int → World → Prop), ∃ (μ : Int → World → Nat), I (0 : Int) w' ∧ ∀ (x_2 :
 Int) (w : World), I x_2 w → bif Decidable.decide (x_2 < (↑ahead_n : Int)) then bif Decidable.decide (x_2 < (25 : Int)) then ∃ (ad : Addr), ahead_A = Option.some ad ∧ ((0 : Int) ≤ x_2 ∧ x_2 <
 (↑ahead_n : Int)) ∧ ∃ (x_3 : Int), World.cell? w (Addr.add (Addr.add ad (Int.toNat x_2 * (5 : Nat))) (0 : Nat)) = Option.some (Value.int IntKind.i64 x_3) ∧ ∃ (x_4 : Int), World.cell?
 w (Addr.add (Addr.add ad (Int.toNat x_2 * (5 : Nat))) (1 : Nat)) = Option.some (Value.int IntKind.i64 x_4) ∧ ∃ (x_5 : Int), World.cell? w (Addr.add (Addr.add ad (Int.toNat x_2 * (5
 : Nat))) (2 : Nat)) = Option.some (Value.int IntKind.i64 x_5) ∧ ∃ (x_6 : Option Addr), ∃ (x_7 : Nat), ∃ (x_8 : Nat), World.cell? w (Addr.add (Addr.add ad (Int.toNat x_2 * (5 : Nat)))
 (3 : Nat)) = Option.some (Value.slice x_6 x_7 x_8) ∧ ∃ (x_9 : Option Addr), ∃ (x_10 : Nat), ∃ (x_11 : Nat), World.cell? w (Addr.add (Addr.add ad (Int.toNat x_2 * (5 : Nat))) (4 : Nat)) =
 Option.some (Value.slice x_9 x_10 x_11) ∧ CallsV Try.prog (16 : Nat) #[Value.agg #[Value.int IntKind.i64 x_3, Value.int IntKind.i64 x_4, Value.int IntKind.i64
 x_5, Value.slice x_6 x_7 x_8, Value.slice x_9 x_10 x_11]] w fun (v : Value) (w' : World) => ∃ (x_12 : Bool), v = Value.bool x_12 ∧ bif x_12 then ∃ (ad : Addr), ahead_A = Option.some
 ad ∧ ((0 : Int) ≤ x_2 ∧ x_2 < (↑ahead_n : Int)) ∧ ∃ (x_13 : Int), World.cell? w' (Addr.add (Addr.add ad (Int.toNat x_2 * (5 : Nat))) (0 : Nat)) = Option.some (Value.int IntKind.i64 x_13)
 ∧ ∃ (x_14 : Int), World.cell? w' (Addr.add (Addr.add ad (Int.toNat x_2 * (5 : Nat))) (1 : Nat)) = Option.some (Value.int IntKind.i64 x_14) ∧ ∃ (x_15 : Int), World.cell? w'
 (Addr.add (Addr.add ad (Int.toNat x_2 * (5 : Nat))) (2 : Nat)) = Option.some (Value.int IntKind.i64 x_15) ∧ ∃ (x_16 : Option Addr), ∃ (x_17 : Nat), ∃ (x_18 : Nat), World.cell? w'
 (Addr.add (Addr.add ad (Int.toNat x_2 * (5 : Nat))) (3 : Nat)) = Option.some (Value.slice x_16 x_17 x_18) ∧ ∃ (x_19 : Option Addr), ∃ (x_20 : Nat), ∃ (x_21 : Nat), World.cell? w'
 (Addr.add (Addr.add ad (Int.toNat x_2 * (5 : Nat))) (4 : Nat)) = Option.some (Value.slice x_19 x_20 x_21) ∧ CallsV Try.prog (17 : Nat) #[Value.pointer x, Value.agg
 #[Value.int IntKind.i64 x_13, Value.int IntKind.i64 x_14, Value.int IntKind.i64 x_15, Value.slice x_16 x_17 x_18, Value.slice x_19 x_20 x_21]] w' fun (v : Value) (w' :
 World) => v = Value.tuple #[] ∧ I (IntKind.wrap IntKind.i64 (x_2 + (1 : Int))) w' ∧ μ (IntKind.wrap IntKind.i64 (x_2 + (1 : Int))) w' < μ x_2 w else I (IntKind.wrap IntKind.i64
 (x_2 + (1 : Int))) w' ∧ μ (IntKind.wrap IntKind.i64 (x_2 + (1 : Int))) w' < μ x_2 w else J w else J w
theorem cardindexlaw05_UndoAgain.eq (ahead_A : Option Addr) (ahead_n : Nat) (ahead_c : Nat) (ops_A : Option Addr) (ops_n : Nat) (ops_c : Nat) (w : World) (K : Value → World → Prop) : cardindexlaw05_UndoAgain.W ahead_A ahead_n ahead_c ops_A ops_n ops_c w K = fnW Try.prog Try.f5 (.named (.seq .auto (.seq .auto (.seq .auto (.join [] (.seq .auto (.block (.loop [(7, .one (.int .i64))] .auto))) (.seq .auto (.seq (.seq .auto (.block (.loop [(9, .one (.int .i64))] (.seq .auto (.seq (.block (.seq .auto (.seq .auto (.join [] (.seq .auto (.block (.loop [(12, .one (.int .i64))] .auto))) .auto)))) .auto))))) .auto))))))) [.slice ahead_A ahead_n ahead_c, .slice ops_A ops_n ops_c] w K := by kernel_rfl
theorem cardindexlaw05_UndoAgain.calls (ok : Okay Try.prog) {ahead_A : Option Addr} {ahead_n : Nat} {ahead_c : Nat} {ops_A : Option Addr} {ops_n : Nat} {ops_c : Nat} {w : World} {K : Value → World → Prop} (h : cardindexlaw05_UndoAgain.W ahead_A ahead_n ahead_c ops_A ops_n ops_c w K) : CallsV Try.prog 5 #[.slice ahead_A ahead_n ahead_c, .slice ops_A ops_n ops_c] w K :=
  fnW_calls ok Try.func5 (an := (.named (.seq .auto (.seq .auto (.seq .auto (.join [] (.seq .auto (.block (.loop [(7, .one (.int .i64))] .auto))) (.seq .auto (.seq (.seq .auto (.block (.loop [(9, .one (.int .i64))] (.seq .auto (.seq (.block (.seq .auto (.seq .auto (.join [] (.seq .auto (.block (.loop [(12, .one (.int .i64))] .auto))) .auto)))) .auto))))) .auto)))))))) (args := [.slice ahead_A ahead_n ahead_c, .slice ops_A ops_n ops_c]) (by rw [← cardindexlaw05_UndoAgain.eq]; exact h)
noncomputable def cardindexlaw05_UndoBack.W : Int → Option Addr → Nat → Nat → Option Addr → Nat → Nat → World → (Value → World → Prop) → Prop := fun (most : Int) (ahead_A : Option Addr) (ahead_n
 ahead_c : Nat) (since_A : Option Addr) (since_n since_c : Nat) (w : World) (K : Value → World → Prop) => CallsV Try.prog (20 : Nat) #[Value.int IntKind.i64 most,
 Value.int IntKind.i64 (57 : Int)] w fun (v : Value) (w' : World) => ∃ (x : Int), v = Value.int IntKind.i64 x ∧ CallsV Try.prog (15 : Nat) #[Value.int IntKind.i64
 (4 : Int), Value.int IntKind.i64 (IntKind.wrap IntKind.i64 ((4 : Int) + x))] w' fun (v : Value) (w' : World) => ∃ (x : Option Addr), ∃ (x_1 : Int), v = Value.tuple
 #[Value.pointer x, Value.int IntKind.i64 x_1] ∧ CallsV Try.prog (26 : Nat) #[Value.pointer x] w' fun (v : Value) (w' : World) => ∃ (x_2 : Int), ∃ (x_3 : Int), v =
 Value.tuple #[Value.int IntKind.i64 x_2, Value.int IntKind.i64 x_3] ∧ bif !Decidable.decide (x_1 = (0 : Int)) then K (Value.bool Bool.false) w' else bif !Decidable.decide (x_3 = (0 :
 Int)) then K (Value.bool Bool.false) w' else ∃ (J : World → Prop), (∀ (w : World), J w → CallsV Try.prog (18 : Nat) #[Value.pointer x] w fun (v : Value) (w' : World)
 => ∃ (x_4 : Int), ∃ (x_5 : Int), v = Value.tuple #[Value.int IntKind.i64 x_4, Value.int IntKind.i64 x_5] ∧ CallsV Try.prog (22 : Nat) #[Value.pointer x] w' fun (v :
 Value) (w' : World) => ∃ (x_6 : Option Addr), ∃ (x_7 : Nat), ∃ (x_8 : Nat), ∃ (x_9 : Option Addr), ∃ (x_10 : Nat), ∃ (x_11 : Nat), ∃ (x_12 : Int), ∃ (x_13 : Int), v = Value.agg
 #[Value.slice x_6 x_7 x_8, Value.slice x_9 x_10 x_11, Value.int IntKind.i64 x_12, Value.int IntKind.i64 x_13] ∧ ∀ (g : Nat) (w'_1 : World), Fresh w' g w'_1 [Value.slice
 Option.none (0 : Nat) (0 : Nat), Value.slice Option.none (0 : Nat) (0 : Nat), Value.int IntKind.i64 (0 : Int), Value.int IntKind.i64 (0 : Int)] (40 : Nat) → stOK (Addr.mk g (0 :
 Nat) Option.none) (0 : Nat) [Value.slice x_6 x_7 x_8, Value.slice x_9 x_10 x_11, Value.int IntKind.i64 x_12, Value.int IntKind.i64 x_13] w'_1 ∧ ∀ (w' : World), w' = setAll
 (Addr.mk g (0 : Nat) Option.none) (0 : Nat) [Value.slice x_6 x_7 x_8, Value.slice x_9 x_10 x_11, Value.int IntKind.i64 x_12, Value.int IntKind.i64 x_13] w'_1 → CallsV
 Try.prog (18 : Nat) #[Value.pointer x] w' fun (v : Value) (w' : World) => ∃ (x_14 : Int), ∃ (x_15 : Int), v = Value.tuple #[Value.int IntKind.i64 x_14, Value.int
 IntKind.i64 x_15] ∧ bif !Decidable.decide (x_15 = (0 : Int)) then K (Value.bool Bool.false) w' else bif !Decidable.decide (x_14 = (2 : Int)) then K (Value.bool Bool.false) w' else ∃ (J :
 World → Prop), (∀ (w : World), J w → CallsV Try.prog (25 : Nat) #[Value.pointer x, Value.int IntKind.i64 x_14] w fun (v : Value) (w' : World) => ∃ (x_16 : Int), v =
 Value.int IntKind.i64 x_16 ∧ bif Decidable.decide (x_16 = (0 : Int)) then ∃ (S : World → Prop), S (World.drew w') ∧ ∃ (x_17 : Option Addr), ∃ (x_18 : Nat), ∃ (x_19 : Nat), (∀ (u :
 World), S u → World.cell? u (Addr.add (Addr.mk g (0 : Nat) Option.none) (0 : Nat)) = Option.some (Value.slice x_17 x_18 x_19)) ∧ ∃ (x_20 : Option Addr), ∃ (x_21 : Nat), ∃ (x_22 :
 Nat), (∀ (u : World), S u → World.cell? u (Addr.add (Addr.mk g (0 : Nat) Option.none) (1 : Nat)) = Option.some (Value.slice x_20 x_21 x_22)) ∧ ∃ (x_23 : Int), (∀ (u : World), S u →
 World.cell? u (Addr.add (Addr.mk g (0 : Nat) Option.none) (2 : Nat)) = Option.some (Value.int IntKind.i64 x_23)) ∧ ∃ (x_24 : Int), (∀ (u : World), S u → World.cell? u (Addr.add
 (Addr.mk g (0 : Nat) Option.none) (3 : Nat)) = Option.some (Value.int IntKind.i64 x_24)) ∧ CallsV Try.prog (22 : Nat) #[Value.pointer x] (World.drew w') fun (v :
 Value) (w' : World) => ∃ (x_25 : Option Addr), ∃ (x_26 : Nat), ∃ (x_27 : Nat), ∃ (x_28 : Option Addr), ∃ (x_29 : Nat), ∃ (x_30 : Nat), ∃ (x_31 : Int), ∃ (x_32 : Int), v = Value.agg
 #[Value.slice x_25 x_26 x_27, Value.slice x_28 x_29 x_30, Value.int IntKind.i64 x_31, Value.int IntKind.i64 x_32] ∧ S w' ∧ CallsV Try.prog (21 : Nat) #[Value.agg
 #[Value.slice x_25 x_26 x_27, Value.slice x_28 x_29 x_30, Value.int IntKind.i64 x_31, Value.int IntKind.i64 x_32], Value.agg #[Value.slice x_17 x_18 x_19, Value.slice x_20
 x_21 x_22, Value.int IntKind.i64 x_23, Value.int IntKind.i64 x_24]] w' fun (v : Value) (w' : World) => ∃ (x_33 : Bool), v = Value.bool x_33 ∧ bif x_33 then CallsV
 Try.prog (24 : Nat) #[Value.pointer x] w' fun (v : Value) (w' : World) => ∃ (x_34 : Int), v = Value.int IntKind.i64 x_34 ∧ bif Decidable.decide (x_34 = IntKind.wrap
 IntKind.i64 (x_14 - (1 : Int))) then CallsV Try.prog (25 : Nat) #[Value.pointer x, Value.int IntKind.i64 x_14] w' fun (v : Value) (w' : World) => ∃ (x_35 : Int), v =
 Value.int IntKind.i64 x_35 ∧ bif Decidable.decide (x_35 = (60 : Int)) then CallsV Try.prog (35 : Nat) #[Value.pointer x] w' fun (v : Value) (w' : World) => ∃ (x : Int), v
 = Value.int IntKind.i64 x ∧ bif Decidable.decide (x = (0 : Int)) then CallsV Try.prog (23 : Nat) #[] w' fun (v : Value) (w' : World) => ∃ (x : Bool), v = Value.bool x ∧ K
 (Value.bool x) w' else K (Value.bool Bool.false) w' else K (Value.bool Bool.false) w' else K (Value.bool Bool.false) w' else K (Value.bool Bool.false) w' else K (Value.bool
 Bool.false) (World.drew w')) ∧ ∃ (I : Int → World → Prop), ∃ (μ : Int → World → Nat), I (0 : Int) w' ∧ ∀ (x_16 : Int) (w : World), I x_16 w → bif Decidable.decide (x_16 < (↑since_n : Int))
 then bif Decidable.decide (x_16 < (60 : Int)) then ∃ (J : World → Prop), (∀ (w_1 : World), J w_1 → I (IntKind.wrap IntKind.i64 (x_16 + (1 : Int))) w_1 ∧ μ (IntKind.wrap IntKind.i64
 (x_16 + (1 : Int))) w_1 < μ x_16 w) ∧ ∃ (ad : Addr), since_A = Option.some ad ∧ ((0 : Int) ≤ x_16 ∧ x_16 < (↑since_n : Int)) ∧ ∃ (x_17 : Int), World.cell? w (Addr.add (Addr.add ad
 (Int.toNat x_16 * (5 : Nat))) (0 : Nat)) = Option.some (Value.int IntKind.i64 x_17) ∧ ∃ (x_18 : Int), World.cell? w (Addr.add (Addr.add ad (Int.toNat x_16 * (5 : Nat))) (1 : Nat)) =
 Option.some (Value.int IntKind.i64 x_18) ∧ ∃ (x_19 : Int), World.cell? w (Addr.add (Addr.add ad (Int.toNat x_16 * (5 : Nat))) (2 : Nat)) = Option.some (Value.int IntKind.i64 x_19)
 ∧ ∃ (x_20 : Option Addr), ∃ (x_21 : Nat), ∃ (x_22 : Nat), World.cell? w (Addr.add (Addr.add ad (Int.toNat x_16 * (5 : Nat))) (3 : Nat)) = Option.some (Value.slice x_20 x_21 x_22) ∧ ∃
 (x_23 : Option Addr), ∃ (x_24 : Nat), ∃ (x_25 : Nat), World.cell? w (Addr.add (Addr.add ad (Int.toNat x_16 * (5 : Nat))) (4 : Nat)) = Option.some (Value.slice x_23 x_24 x_25) ∧ ∀ (g :
 Nat) (w' : World), Fresh w g w' [Value.int IntKind.i64 (0 : Int), Value.int IntKind.i64 (0 : Int), Value.int IntKind.i64 (0 : Int), Value.slice Option.none (0 : Nat) (0 :
 Nat), Value.slice Option.none (0 : Nat) (0 : Nat)] (30 : Nat) → stOK (Addr.mk g (0 : Nat) Option.none) (0 : Nat) [Value.int IntKind.i64 x_17, Value.int IntKind.i64 x_18,
 Value.int IntKind.i64 x_19, Value.slice x_20 x_21 x_22, Value.slice x_23 x_24 x_25] w' ∧ ∀ (w'_2 : World), w'_2 = setAll (Addr.mk g (0 : Nat) Option.none) (0 : Nat)
 [Value.int IntKind.i64 x_17, Value.int IntKind.i64 x_18, Value.int IntKind.i64 x_19, Value.slice x_20 x_21 x_22, Value.slice x_23 x_24 x_25] w' → ∃ (J_1 : World → Prop), (∀
 (w : World), J_1 w → CallsV Try.prog (24 : Nat) #[Value.pointer x] w fun (v : Value) (w' : World) => ∃ (x_26 : Int), v = Value.int IntKind.i64 x_26 ∧ bif
 Decidable.decide (x_26 < x_14) then K (Value.bool Bool.false) w' else CallsV Try.prog (35 : Nat) #[Value.pointer x] w' fun (v : Value) (w' : World) => ∃ (x : Int), v =
 Value.int IntKind.i64 x ∧ bif !Decidable.decide (x = (0 : Int)) then K (Value.bool Bool.false) w' else J w') ∧ ∃ (x_26 : Int), World.cell? w'_2 (Addr.add (Addr.mk g (0 : Nat)
 Option.none) (0 : Nat)) = Option.some (Value.int IntKind.i64 x_26) ∧ ∃ (x_27 : Int), World.cell? w'_2 (Addr.add (Addr.mk g (0 : Nat) Option.none) (1 : Nat)) = Option.some (Value.int
 IntKind.i64 x_27) ∧ ∃ (x_28 : Int), World.cell? w'_2 (Addr.add (Addr.mk g (0 : Nat) Option.none) (2 : Nat)) = Option.some (Value.int IntKind.i64 x_28) ∧ ∃ (x_29 : Option Addr), ∃
 (x_30 : Nat), ∃ (x_31 : Nat), World.cell? w'_2 (Addr.add (Addr.mk g (0 : Nat) Option.none) (3 : Nat)) = Option.some (Value.slice x_29 x_30 x_31) ∧ ∃ (x_32 : Option Addr), ∃ (x_33 : Nat),
 ∃ (x_34 : Nat), World.cell? w'_2 (Addr.add (Addr.mk g (0 : Nat) Option.none) (4 : Nat)) = Option.some (Value.slice x_32 x_33 x_34) ∧ CallsV Try.prog (16 : Nat)
 #[Value.agg #[Value.int IntKind.i64 x_26, Value.int IntKind.i64 x_27, Value.int IntKind.i64 x_28, Value.slice x_29 x_30 x_31, Value.slice x_32 x_33 x_34]] w'_2 fun (v :
 Value) (w' : World) => ∃ (x_35 : Bool), v = Value.bool x_35 ∧ bif !x_35 then J_1 w' else ∃ (x_36 : Int), World.cell? w' (Addr.add (Addr.mk g (0 : Nat) Option.none) (0 : Nat)) =
 Option.some (Value.int IntKind.i64 x_36) ∧ bif Decidable.decide (x_36 = (9 : Int)) then CallsV Try.prog (18 : Nat) #[Value.pointer x] w' fun (v : Value) (w' : World) => ∃
 (x : Int), ∃ (x_37 : Int), v = Value.tuple #[Value.int IntKind.i64 x, Value.int IntKind.i64 x_37] ∧ J_1 w' else ∃ (x_37 : Int), World.cell? w' (Addr.add (Addr.mk g (0 : Nat)
 Option.none) (0 : Nat)) = Option.some (Value.int IntKind.i64 x_37) ∧ bif Decidable.decide (x_37 = (10 : Int)) then ∃ (x_38 : Int), World.cell? w' (Addr.add (Addr.mk g (0 : Nat)
 Option.none) (2 : Nat)) = Option.some (Value.int IntKind.i64 x_38) ∧ bif Decidable.decide (x_14 < x_38) then ∃ (x_39 : Int), World.cell? w' (Addr.add (Addr.mk g (0 : Nat) Option.none) (2
 : Nat)) = Option.some (Value.int IntKind.i64 x_39) ∧ CallsV Try.prog (25 : Nat) #[Value.pointer x, Value.int IntKind.i64 x_39] w' fun (v : Value) (w' : World) => ∃
 (x : Int), v = Value.int IntKind.i64 x ∧ J_1 w' else ∃ (x_39 : Int), World.cell? w' (Addr.add (Addr.mk g (0 : Nat) Option.none) (0 : Nat)) = Option.some (Value.int IntKind.i64
 x_39) ∧ bif Decidable.decide (x_39 = (11 : Int)) then ∃ (x_40 : Int), World.cell? w' (Addr.add (Addr.mk g (0 : Nat) Option.none) (2 : Nat)) = Option.some (Value.int IntKind.i64 x_40) ∧
 bif Decidable.decide (x_14 < x_40) then ∃ (x_41 : Int), World.cell? w' (Addr.add (Addr.mk g (0 : Nat) Option.none) (2 : Nat)) = Option.some (Value.int IntKind.i64 x_41) ∧ CallsV
 Try.prog (19 : Nat) #[Value.pointer x, Value.int IntKind.i64 x_41] w' fun (v : Value) (w' : World) => ∃ (x : Int), v = Value.int IntKind.i64 x ∧ J_1 w' else ∃ (x_41 :
 Int), World.cell? w' (Addr.add (Addr.mk g (0 : Nat) Option.none) (0 : Nat)) = Option.some (Value.int IntKind.i64 x_41) ∧ ∃ (x_42 : Int), World.cell? w' (Addr.add (Addr.mk g (0 :
 Nat) Option.none) (1 : Nat)) = Option.some (Value.int IntKind.i64 x_42) ∧ ∃ (x_43 : Int), World.cell? w' (Addr.add (Addr.mk g (0 : Nat) Option.none) (2 : Nat)) = Option.some
 (Value.int IntKind.i64 x_43) ∧ ∃ (x_44 : Option Addr), ∃ (x_45 : Nat), ∃ (x_46 : Nat), World.cell? w' (Addr.add (Addr.mk g (0 : Nat) Option.none) (3 : Nat)) = Option.some
 (Value.slice x_44 x_45 x_46) ∧ ∃ (x_47 : Option Addr), ∃ (x_48 : Nat), ∃ (x_49 : Nat), World.cell? w' (Addr.add (Addr.mk g (0 : Nat) Option.none) (4 : Nat)) = Option.some (Value.slice
 x_47 x_48 x_49) ∧ CallsV Try.prog (17 : Nat) #[Value.pointer x, Value.agg #[Value.int IntKind.i64 x_41, Value.int IntKind.i64 x_42, Value.int IntKind.i64 x_43,
 Value.slice x_44 x_45 x_46, Value.slice x_47 x_48 x_49]] w' fun (v : Value) (w' : World) => v = Value.tuple #[] ∧ J_1 w' else ∃ (x_40 : Int), World.cell? w' (Addr.add (Addr.mk g
 (0 : Nat) Option.none) (0 : Nat)) = Option.some (Value.int IntKind.i64 x_40) ∧ ∃ (x_41 : Int), World.cell? w' (Addr.add (Addr.mk g (0 : Nat) Option.none) (1 : Nat)) = Option.some
 (Value.int IntKind.i64 x_41) ∧ ∃ (x_42 : Int), World.cell? w' (Addr.add (Addr.mk g (0 : Nat) Option.none) (2 : Nat)) = Option.some (Value.int IntKind.i64 x_42) ∧ ∃ (x_43 : Option
 Addr), ∃ (x_44 : Nat), ∃ (x_45 : Nat), World.cell? w' (Addr.add (Addr.mk g (0 : Nat) Option.none) (3 : Nat)) = Option.some (Value.slice x_43 x_44 x_45) ∧ ∃ (x_46 : Option Addr), ∃
 (x_47 : Nat), ∃ (x_48 : Nat), World.cell? w' (Addr.add (Addr.mk g (0 : Nat) Option.none) (4 : Nat)) = Option.some (Value.slice x_46 x_47 x_48) ∧ CallsV Try.prog (17 : Nat)
 #[Value.pointer x, Value.agg #[Value.int IntKind.i64 x_40, Value.int IntKind.i64 x_41, Value.int IntKind.i64 x_42, Value.slice x_43 x_44 x_45, Value.slice x_46 x_47 x_48]]
 w' fun (v : Value) (w' : World) => v = Value.tuple #[] ∧ J_1 w' else ∃ (x_38 : Int), World.cell? w' (Addr.add (Addr.mk g (0 : Nat) Option.none) (0 : Nat)) = Option.some (Value.int
 IntKind.i64 x_38) ∧ bif Decidable.decide (x_38 = (11 : Int)) then ∃ (x_39 : Int), World.cell? w' (Addr.add (Addr.mk g (0 : Nat) Option.none) (2 : Nat)) = Option.some (Value.int
 IntKind.i64 x_39) ∧ bif Decidable.decide (x_14 < x_39) then ∃ (x_40 : Int), World.cell? w' (Addr.add (Addr.mk g (0 : Nat) Option.none) (2 : Nat)) = Option.some (Value.int IntKind.i64
 x_40) ∧ CallsV Try.prog (19 : Nat) #[Value.pointer x, Value.int IntKind.i64 x_40] w' fun (v : Value) (w' : World) => ∃ (x : Int), v = Value.int IntKind.i64 x ∧ J_1
 w' else ∃ (x_40 : Int), World.cell? w' (Addr.add (Addr.mk g (0 : Nat) Option.none) (0 : Nat)) = Option.some (Value.int IntKind.i64 x_40) ∧ ∃ (x_41 : Int), World.cell? w' (Addr.add
 (Addr.mk g (0 : Nat) Option.none) (1 : Nat)) = Option.some (Value.int IntKind.i64 x_41) ∧ ∃ (x_42 : Int), World.cell? w' (Addr.add (Addr.mk g (0 : Nat) Option.none) (2 : Nat)) =
 Option.some (Value.int IntKind.i64 x_42) ∧ ∃ (x_43 : Option Addr), ∃ (x_44 : Nat), ∃ (x_45 : Nat), World.cell? w' (Addr.add (Addr.mk g (0 : Nat) Option.none) (3 : Nat)) = Option.some
 (Value.slice x_43 x_44 x_45) ∧ ∃ (x_46 : Option Addr), ∃ (x_47 : Nat), ∃ (x_48 : Nat), World.cell? w' (Addr.add (Addr.mk g (0 : Nat) Option.none) (4 : Nat)) = Option.some (Value.slice
 x_46 x_47 x_48) ∧ CallsV Try.prog (17 : Nat) #[Value.pointer x, Value.agg #[Value.int IntKind.i64 x_40, Value.int IntKind.i64 x_41, Value.int IntKind.i64 x_42,
 Value.slice x_43 x_44 x_45, Value.slice x_46 x_47 x_48]] w' fun (v : Value) (w' : World) => v = Value.tuple #[] ∧ J_1 w' else ∃ (x_39 : Int), World.cell? w' (Addr.add (Addr.mk g
 (0 : Nat) Option.none) (0 : Nat)) = Option.some (Value.int IntKind.i64 x_39) ∧ ∃ (x_40 : Int), World.cell? w' (Addr.add (Addr.mk g (0 : Nat) Option.none) (1 : Nat)) = Option.some
 (Value.int IntKind.i64 x_40) ∧ ∃ (x_41 : Int), World.cell? w' (Addr.add (Addr.mk g (0 : Nat) Option.none) (2 : Nat)) = Option.some (Value.int IntKind.i64 x_41) ∧ ∃ (x_42 : Option
 Addr), ∃ (x_43 : Nat), ∃ (x_44 : Nat), World.cell? w' (Addr.add (Addr.mk g (0 : Nat) Option.none) (3 : Nat)) = Option.some (Value.slice x_42 x_43 x_44) ∧ ∃ (x_45 : Option Addr), ∃
 (x_46 : Nat), ∃ (x_47 : Nat), World.cell? w' (Addr.add (Addr.mk g (0 : Nat) Option.none) (4 : Nat)) = Option.some (Value.slice x_45 x_46 x_47) ∧ CallsV Try.prog (17 : Nat)
 #[Value.pointer x, Value.agg #[Value.int IntKind.i64 x_39, Value.int IntKind.i64 x_40, Value.int IntKind.i64 x_41, Value.slice x_42 x_43 x_44, Value.slice x_45 x_46 x_47]]
 w' fun (v : Value) (w' : World) => v = Value.tuple #[] ∧ J_1 w' else J w else J w) ∧ ∃ (I : Int → World → Prop), ∃ (μ : Int → World → Nat), I (0 : Int) w' ∧ ∀ (x_4 : Int) (w : World),
 I x_4 w → bif Decidable.decide (x_4 < (↑ahead_n : Int)) then bif Decidable.decide (x_4 < (25 : Int)) then ∃ (ad : Addr), ahead_A = Option.some ad ∧ ((0 : Int) ≤ x_4 ∧ x_4 < (↑ahead_n : Int)) ∧ ∃
 (x_5 : Int), World.cell? w (Addr.add (Addr.add ad (Int.toNat x_4 * (5 : Nat))) (0 : Nat)) = Option.some (Value.int IntKind.i64 x_5) ∧ ∃ (x_6 : Int), World.cell? w (Addr.add
 (Addr.add ad (Int.toNat x_4 * (5 : Nat))) (1 : Nat)) = Option.some (Value.int IntKind.i64 x_6) ∧ ∃ (x_7 : Int), World.cell? w (Addr.add (Addr.add ad (Int.toNat x_4 * (5 : Nat))) (2 :
 Nat)) = Option.some (Value.int IntKind.i64 x_7) ∧ ∃ (x_8 : Option Addr), ∃ (x_9 : Nat), ∃ (x_10 : Nat), World.cell? w (Addr.add (Addr.add ad (Int.toNat x_4 * (5 : Nat))) (3 : Nat)) =
 Option.some (Value.slice x_8 x_9 x_10) ∧ ∃ (x_11 : Option Addr), ∃ (x_12 : Nat), ∃ (x_13 : Nat), World.cell? w (Addr.add (Addr.add ad (Int.toNat x_4 * (5 : Nat))) (4 : Nat)) =
 Option.some (Value.slice x_11 x_12 x_13) ∧ CallsV Try.prog (16 : Nat) #[Value.agg #[Value.int IntKind.i64 x_5, Value.int IntKind.i64 x_6, Value.int IntKind.i64
 x_7, Value.slice x_8 x_9 x_10, Value.slice x_11 x_12 x_13]] w fun (v : Value) (w' : World) => ∃ (x_14 : Bool), v = Value.bool x_14 ∧ bif x_14 then ∃ (ad : Addr), ahead_A = Option.some
 ad ∧ ((0 : Int) ≤ x_4 ∧ x_4 < (↑ahead_n : Int)) ∧ ∃ (x_15 : Int), World.cell? w' (Addr.add (Addr.add ad (Int.toNat x_4 * (5 : Nat))) (0 : Nat)) = Option.some (Value.int IntKind.i64 x_15)
 ∧ ∃ (x_16 : Int), World.cell? w' (Addr.add (Addr.add ad (Int.toNat x_4 * (5 : Nat))) (1 : Nat)) = Option.some (Value.int IntKind.i64 x_16) ∧ ∃ (x_17 : Int), World.cell? w'
 (Addr.add (Addr.add ad (Int.toNat x_4 * (5 : Nat))) (2 : Nat)) = Option.some (Value.int IntKind.i64 x_17) ∧ ∃ (x_18 : Option Addr), ∃ (x_19 : Nat), ∃ (x_20 : Nat), World.cell? w'
 (Addr.add (Addr.add ad (Int.toNat x_4 * (5 : Nat))) (3 : Nat)) = Option.some (Value.slice x_18 x_19 x_20) ∧ ∃ (x_21 : Option Addr), ∃ (x_22 : Nat), ∃ (x_23 : Nat), World.cell? w'
 (Addr.add (Addr.add ad (Int.toNat x_4 * (5 : Nat))) (4 : Nat)) = Option.some (Value.slice x_21 x_22 x_23) ∧ CallsV Try.prog (17 : Nat) #[Value.pointer x, Value.agg
 #[Value.int IntKind.i64 x_15, Value.int IntKind.i64 x_16, Value.int IntKind.i64 x_17, Value.slice x_18 x_19 x_20, Value.slice x_21 x_22 x_23]] w' fun (v : Value) (w' :
 World) => v = Value.tuple #[] ∧ I (IntKind.wrap IntKind.i64 (x_4 + (1 : Int))) w' ∧ μ (IntKind.wrap IntKind.i64 (x_4 + (1 : Int))) w' < μ x_4 w else I (IntKind.wrap IntKind.i64
 (x_4 + (1 : Int))) w' ∧ μ (IntKind.wrap IntKind.i64 (x_4 + (1 : Int))) w' < μ x_4 w else J w else J w
theorem cardindexlaw05_UndoBack.eq (most : Int) (ahead_A : Option Addr) (ahead_n : Nat) (ahead_c : Nat) (since_A : Option Addr) (since_n : Nat) (since_c : Nat) (w : World) (K : Value → World → Prop) : cardindexlaw05_UndoBack.W most ahead_A ahead_n ahead_c since_A since_n since_c w K = fnW Try.prog Try.f7 (.named (.seq .auto (.seq .auto (.seq .auto (.seq .auto (.join [] (.seq .auto (.block (.loop [(11, .one (.int .i64))] .auto))) (.seq .auto (.seq .auto (.seq .auto (.seq .auto (.join [] (.seq .auto (.block (.loop [(15, .one (.int .i64))] (.seq .auto (.join [] (.block (.seq .auto (.join [] .auto .auto))) .auto))))) .auto))))))))))) [.int .i64 most, .slice ahead_A ahead_n ahead_c, .slice since_A since_n since_c] w K := by kernel_rfl
theorem cardindexlaw05_UndoBack.calls (ok : Okay Try.prog) {most : Int} {ahead_A : Option Addr} {ahead_n : Nat} {ahead_c : Nat} {since_A : Option Addr} {since_n : Nat} {since_c : Nat} {w : World} {K : Value → World → Prop} (h : cardindexlaw05_UndoBack.W most ahead_A ahead_n ahead_c since_A since_n since_c w K) : CallsV Try.prog 7 #[.int .i64 most, .slice ahead_A ahead_n ahead_c, .slice since_A since_n since_c] w K :=
  fnW_calls ok Try.func7 (an := (.named (.seq .auto (.seq .auto (.seq .auto (.seq .auto (.join [] (.seq .auto (.block (.loop [(11, .one (.int .i64))] .auto))) (.seq .auto (.seq .auto (.seq .auto (.seq .auto (.join [] (.seq .auto (.block (.loop [(15, .one (.int .i64))] (.seq .auto (.join [] (.block (.seq .auto (.join [] .auto .auto))) .auto))))) .auto)))))))))))) (args := [.int .i64 most, .slice ahead_A ahead_n ahead_c, .slice since_A since_n since_c]) (by rw [← cardindexlaw05_UndoBack.eq]; exact h)
noncomputable def cardindexlaw05_UndoNone.W : Int → Option Addr → Nat → Nat → Option Addr → Nat → Nat → Bool → World → (Value → World → Prop) → Prop := fun (id : Int) (key_A : Option Addr) (key_n
 key_c : Nat) (val_A : Option Addr) (val_n val_c : Nat) (atx : Bool) (w : World) (K : Value → World → Prop) => ∀ (g : Nat) (w' : World), Fresh w g w' [Value.pointer Option.none,
 Value.slice Option.none (0 : Nat) (0 : Nat), Value.slice Option.none (0 : Nat) (0 : Nat)] (81 : Nat) → ∀ (g_1 : Nat) (w'_1 : World), Fresh w' g_1 w'_1 [Value.pointer Option.none,
 Value.pointer (Option.some (Addr.mk g (0 : Nat) Option.none))] (23 : Nat) → ∃ (I : Int → World → Prop), ∃ (μ : Int → World → Nat), I (0 : Int) w'_1 ∧ ∀ (x : Int) (w : World), I x w → bif
 Decidable.decide (x < (↑(2 : Nat) : Int)) then ∃ (ad : Addr), Option.some (Addr.mk g_1 (0 : Nat) Option.none) = Option.some ad ∧ ((0 : Int) ≤ x ∧ x < (↑(2 : Nat) : Int)) ∧ ∃ (x_1 : Option
 Addr), World.cell? w (Addr.add ad (Int.toNat x * (1 : Nat))) = Option.some (Value.pointer x_1) ∧ CallsV Try.prog (26 : Nat) #[Value.pointer x_1] w fun (v : Value) (w'
 : World) => ∃ (x_2 : Int), ∃ (x_3 : Int), v = Value.tuple #[Value.int IntKind.i64 x_2, Value.int IntKind.i64 x_3] ∧ CallsV Try.prog (29 : Nat) #[Value.pointer x_1,
 Value.int IntKind.i64 id, Value.slice key_A key_n key_c, Value.slice val_A val_n val_c] w' fun (v : Value) (w' : World) => ∃ (x_4 : Bool), ∃ (x_5 : Int), v = Value.tuple
 #[Value.bool x_4, Value.int IntKind.i64 x_5] ∧ CallsV Try.prog (40 : Nat) #[Value.pointer x_1, Value.int IntKind.i64 id, Value.slice key_A key_n key_c] w' fun (v :
 Value) (w' : World) => ∃ (x_6 : Bool), ∃ (x_7 : Int), v = Value.tuple #[Value.bool x_6, Value.int IntKind.i64 x_7] ∧ CallsV Try.prog (18 : Nat) #[Value.pointer x_1]
 w' fun (v : Value) (w' : World) => ∃ (x_8 : Int), ∃ (x_9 : Int), v = Value.tuple #[Value.int IntKind.i64 x_8, Value.int IntKind.i64 x_9] ∧ CallsV Try.prog (49 :
 Nat) #[Value.pointer x_1, Value.int IntKind.i64 id, Value.slice key_A key_n key_c] w' fun (v : Value) (w' : World) => ∃ (x_10 : Option Addr), ∃ (x_11 : Nat), ∃ (x_12 : Nat), ∃
 (x_13 : Bool), v = Value.tuple #[Value.slice x_10 x_11 x_12, Value.bool x_13] ∧ CallsV Try.prog (50 : Nat) #[Value.pointer x_1, Value.int IntKind.i64 id,
 Value.slice key_A key_n key_c, Value.bool atx] w' fun (v : Value) (w' : World) => ∃ (x_14 : Option Addr), ∃ (x_15 : Nat), ∃ (x_16 : Nat), ∃ (x_17 : Option Addr), ∃ (x_18 : Nat), ∃
 (x_19 : Nat), ∃ (x_20 : Bool), v = Value.tuple #[Value.slice x_14 x_15 x_16, Value.slice x_17 x_18 x_19, Value.bool x_20] ∧ CallsV Try.prog (51 : Nat) #[Value.pointer
 x_1, Value.int IntKind.i64 id, Value.slice key_A key_n key_c, Value.bool atx] w' fun (v : Value) (w' : World) => ∃ (x_21 : Option Addr), ∃ (x_22 : Nat), ∃ (x_23 : Nat), ∃ (x_24 :
 Option Addr), ∃ (x_25 : Nat), ∃ (x_26 : Nat), ∃ (x_27 : Bool), v = Value.tuple #[Value.slice x_21 x_22 x_23, Value.slice x_24 x_25 x_26, Value.bool x_27] ∧ CallsV
 Try.prog (52 : Nat) #[Value.pointer x_1, Value.int IntKind.i64 id] w' fun (v : Value) (w' : World) => ∃ (x_28 : Option Addr), ∃ (x_29 : Nat), ∃ (x_30 : Nat), ∃ (x_31 :
 Option Addr), ∃ (x_32 : Nat), ∃ (x_33 : Nat), ∃ (x_34 : Bool), v = Value.tuple #[Value.slice x_28 x_29 x_30, Value.slice x_31 x_32 x_33, Value.bool x_34] ∧ bif !Decidable.decide (x_3 =
 (1 : Int)) then K (Value.bool Bool.false) w' else bif !Decidable.decide (x_5 = (1 : Int)) then K (Value.bool Bool.false) w' else bif !Decidable.decide (x_7 = (1 : Int)) then K (Value.bool
 Bool.false) w' else bif !Decidable.decide (x_9 = (1 : Int)) then K (Value.bool Bool.false) w' else CallsV Try.prog (31 : Nat) #[Value.pointer x_1, Value.int IntKind.i64 id]
 w' fun (v : Value) (w' : World) => ∃ (x_35 : Int), v = Value.int IntKind.i64 x_35 ∧ bif !Decidable.decide (x_35 = (1 : Int)) then K (Value.bool Bool.false) w' else CallsV
 Try.prog (35 : Nat) #[Value.pointer x_1] w' fun (v : Value) (w' : World) => ∃ (x_36 : Int), v = Value.int IntKind.i64 x_36 ∧ bif !Decidable.decide (x_36 = (1 : Int)) then K
 (Value.bool Bool.false) w' else CallsV Try.prog (25 : Nat) #[Value.pointer x_1, Value.int IntKind.i64 id] w' fun (v : Value) (w' : World) => ∃ (x_37 : Int), v =
 Value.int IntKind.i64 x_37 ∧ bif !Decidable.decide (x_37 = (1 : Int)) then K (Value.bool Bool.false) w' else CallsV Try.prog (19 : Nat) #[Value.pointer x_1, Value.int
 IntKind.i64 id] w' fun (v : Value) (w' : World) => ∃ (x_38 : Int), v = Value.int IntKind.i64 x_38 ∧ bif !Decidable.decide (x_38 = (1 : Int)) then K (Value.bool Bool.false) w' else bif
 x_4 then K (Value.bool Bool.false) w' else bif x_6 then K (Value.bool Bool.false) w' else bif x_13 then K (Value.bool Bool.false) w' else bif x_20 then K (Value.bool Bool.false) w' else bif
 x_27 then K (Value.bool Bool.false) w' else bif x_34 then K (Value.bool Bool.false) w' else CallsV Try.prog (34 : Nat) #[Value.pointer x_1, Value.int IntKind.i64 id] w'
 fun (v : Value) (w' : World) => ∃ (x_39 : Int), v = Value.int IntKind.i64 x_39 ∧ CallsV Try.prog (39 : Nat) #[Value.pointer x_1] w' fun (v : Value) (w' : World) =>
 ∃ (x_40 : Int), v = Value.int IntKind.i64 x_40 ∧ CallsV Try.prog (24 : Nat) #[Value.pointer x_1] w' fun (v : Value) (w' : World) => ∃ (x_41 : Int), v = Value.int
 IntKind.i64 x_41 ∧ CallsV Try.prog (33 : Nat) #[Value.pointer x_1] w' fun (v : Value) (w' : World) => ∃ (x_42 : Option Addr), ∃ (x_43 : Nat), ∃ (x_44 : Nat), v =
 Value.slice x_42 x_43 x_44 ∧ bif !Decidable.decide (IntKind.wrap IntKind.i64 (IntKind.wrap IntKind.i64 (IntKind.wrap IntKind.i64 (IntKind.wrap IntKind.i64 (IntKind.wrap
 IntKind.i64 (x_2 + x_8) + x_39) + x_40) + x_41) + (↑x_43 : Int)) = (0 : Int)) then K (Value.bool Bool.false) w' else I (IntKind.wrap IntKind.i64 (x + (1 : Int))) w' ∧ μ (IntKind.wrap
 IntKind.i64 (x + (1 : Int))) w' < μ x w else CallsV Try.prog (23 : Nat) #[] w fun (v : Value) (w' : World) => ∃ (x : Bool), v = Value.bool x ∧ K (Value.bool x) w'
theorem cardindexlaw05_UndoNone.eq (id : Int) (key_A : Option Addr) (key_n : Nat) (key_c : Nat) (val_A : Option Addr) (val_n : Nat) (val_c : Nat) (atx : Bool) (w : World) (K : Value → World → Prop) : cardindexlaw05_UndoNone.W id key_A key_n key_c val_A val_n val_c atx w K = fnW Try.prog Try.f9 (.named (.seq .auto (.seq .auto (.seq (.seq .auto (.block (.loop [(36, .one (.int .i64))] .auto))) .auto)))) [.int .i64 id, .slice key_A key_n key_c, .slice val_A val_n val_c, .bool atx] w K := by kernel_rfl
theorem cardindexlaw05_UndoNone.calls (ok : Okay Try.prog) {id : Int} {key_A : Option Addr} {key_n : Nat} {key_c : Nat} {val_A : Option Addr} {val_n : Nat} {val_c : Nat} {atx : Bool} {w : World} {K : Value → World → Prop} (h : cardindexlaw05_UndoNone.W id key_A key_n key_c val_A val_n val_c atx w K) : CallsV Try.prog 9 #[.int .i64 id, .slice key_A key_n key_c, .slice val_A val_n val_c, .bool atx] w K :=
  fnW_calls ok Try.func9 (an := (.named (.seq .auto (.seq .auto (.seq (.seq .auto (.block (.loop [(36, .one (.int .i64))] .auto))) .auto))))) (args := [.int .i64 id, .slice key_A key_n key_c, .slice val_A val_n val_c, .bool atx]) (by rw [← cardindexlaw05_UndoNone.eq]; exact h)
end Go.Proofs.Ythfagbfllheneaa
/- Layer 5: calls, one after the other; two stores. -/
set_option linter.unusedVariables false
set_option linter.unusedSimpArgs false
namespace Go.Proofs.Ythfagbfllheneaa
open Go Go.Sx T4
/-! ## runs -/
noncomputable def stepU (o : Op5) (p : Ar × List Tr) : Ar × List Tr := open Classical in if h : ∃ p' : Ar × List Tr, Does p.1 p.2 o p'.1 p'.2 then Classical.choose h else p
theorem stepU_does {o : Op5} {p : Ar × List Tr} (hI : Inv p.1 p.2) (hl : p.1.last < 1000000) (ho : smallO o = true) : Does p.1 p.2 o (stepU o p).1 (stepU o p).2 := by
  have h : ∃ p' : Ar × List Tr, Does p.1 p.2 o p'.1 p'.2 := by
    obtain ⟨A', D', h⟩ := does_ex hI hl ho
    exact ⟨(A', D'), h⟩
  unfold stepU
  rw [dif_pos h]
  exact Classical.choose_spec h
noncomputable def seqU (ops : List Op5) (p : Ar × List Tr) : Nat → Ar × List Tr
  | 0 => p
  | j + 1 => match ops[j]? with
    | some o => if smallO o then stepU o (seqU ops p j) else seqU ops p j
    | none => seqU ops p j
theorem seqU_done {ops : List Op5} {p : Ar × List Tr} (hI : Inv p.1 p.2) : ∀ j, p.1.last + j < 1000000 → Inv (seqU ops p j).1 (seqU ops p j).2 ∧ (seqU ops p j).1.last ≤ p.1.last + j
  | 0, _ => ⟨hI, Nat.le_refl _⟩
  | j + 1, h => by
    obtain ⟨h1, h2⟩ := seqU_done hI (ops := ops) j (by omega)
    rw [seqU]
    cases ops[j]? with
    | none => exact ⟨h1, by show (seqU ops p j).1.last ≤ _; omega⟩
    | some o =>
      dsimp only
      split
      · rename_i ho
        have hd := (stepU_does h1 (by omega) ho).done
        exact ⟨hd.inv, by have := hd.last; omega⟩
      · exact ⟨h1, by omega⟩
set_option maxRecDepth 10000 in
/-- the statements' loop of calls -/
theorem runLoop {Ωo : Nat → Prop} {w : World} {OA : Option Addr} {ops : List Op5} (ho : Imm KOp Ωo w OA ops) {T0 : Nat → Prop} {u0 : World} {s : Nat} {A : Ar} {D : List Tr} {ms : List (Ar × List Tr)} (h0 : Sto T0 u0 s ⟨A, D, ms⟩) (e0 : Ext w u0) (t0 : ∀ k, T0 k → w.heap.size ≤ k) (lim : Nat) (hlim : lim ≤ 1000) (hl : A.last ≤ 1000) {J : World → Prop}
    (hJ : ∀ T v j, Sto T v s ⟨(seqU ops (A, D) j).1, (seqU ops (A, D) j).2, ms⟩ → Tch T0 u0 T v → j = min ops.length lim → J v) :
    ∃ I : Int → World → Prop, ∃ μ : Int → World → Nat, I 0 u0 ∧ ∀ x v, I x v →
      bif decide (x < (ops.length : Int)) then
        bif decide (x < (lim : Int)) then
          ∃ ad, OA = some ad ∧ ((0 : Int) ≤ x ∧ x < (ops.length : Int)) ∧ ∃ x3, v.cell? ((ad.add (x.toNat * 5)).add 0) = some (.int .i64 x3) ∧ ∃ x4, v.cell? ((ad.add (x.toNat * 5)).add 1) = some (.int .i64 x4) ∧ ∃ x5, v.cell? ((ad.add (x.toNat * 5)).add 2) = some (.int .i64 x5) ∧
            ∃ x6 x7 x8, v.cell? ((ad.add (x.toNat * 5)).add 3) = some (.slice x6 x7 x8) ∧ ∃ x9 x10 x11, v.cell? ((ad.add (x.toNat * 5)).add 4) = some (.slice x9 x10 x11) ∧
            CallsV Try.prog 16 #[.agg #[.int .i64 x3, .int .i64 x4, .int .i64 x5, .slice x6 x7 x8, .slice x9 x10 x11]] v fun r w' => ∃ x12, r = .bool x12 ∧
              bif x12 then
                ∃ ad, OA = some ad ∧ ((0 : Int) ≤ x ∧ x < (ops.length : Int)) ∧ ∃ x13, w'.cell? ((ad.add (x.toNat * 5)).add 0) = some (.int .i64 x13) ∧ ∃ x14, w'.cell? ((ad.add (x.toNat * 5)).add 1) = some (.int .i64 x14) ∧ ∃ x15, w'.cell? ((ad.add (x.toNat * 5)).add 2) = some (.int .i64 x15) ∧
                  ∃ x16 x17 x18, w'.cell? ((ad.add (x.toNat * 5)).add 3) = some (.slice x16 x17 x18) ∧ ∃ x19 x20 x21, w'.cell? ((ad.add (x.toNat * 5)).add 4) = some (.slice x19 x20 x21) ∧
                  CallsV Try.prog 17 #[.pointer (some ⟨s, 0, none⟩), .agg #[.int .i64 x13, .int .i64 x14, .int .i64 x15, .slice x16 x17 x18, .slice x19 x20 x21]] w' fun r w' => r = .tuple #[] ∧ I (IntKind.i64.wrap (x + 1)) w' ∧ μ (IntKind.i64.wrap (x + 1)) w' < μ x v
              else I (IntKind.i64.wrap (x + 1)) w' ∧ μ (IntKind.i64.wrap (x + 1)) w' < μ x v
        else J v
      else J v := by
  have hI : Inv A D := h0.inv
  refine ⟨fun x v => ∃ j : Nat, x = (j : Int) ∧ j ≤ lim ∧ j ≤ ops.length ∧ ∃ T, Sto T v s ⟨(seqU ops (A, D) j).1, (seqU ops (A, D) j).2, ms⟩ ∧ Tch T0 u0 T v, fun x _ => (lim - x).toNat, ⟨0, rfl, Nat.zero_le _, Nat.zero_le _, T0, h0, .refl _ _⟩, ?_⟩
  rintro _ v ⟨j, rfl, hj, hjo, T, h, c⟩
  refine brd (fun hlt => brd (fun hlt2 => ?_) (fun hge => hJ T v j h c (by omega))) (fun hge => hJ T v j h c (by omega))
  have hjl : j < ops.length := by omega
  obtain ⟨ev, tv⟩ := c.keepExt e0 t0
  obtain ⟨ad, KA, kc, VA, vc, hOA, C⟩ := opC ho hjl
  have hx : ops[j]? = some ops[j] := List.getElem?_eq_getElem hjl
  have hseq : seqU ops (A, D) (j + 1) = if smallO ops[j] then stepU ops[j] (seqU ops (A, D) j) else seqU ops (A, D) j := by rw [seqU, hx]
  generalize ops[j] = o at C hseq hx
  have tn : ((j : Nat) : Int).toNat = j := Int.toNat_natCast j
  have C1 := C.ext ev
  rw [tn]
  refine ⟨ad, hOA, ⟨by omega, by omega⟩, _, C1.c0, _, C1.c1, _, C1.c2, _, _, _, C1.c3, _, _, _, C1.c4, (small_spec _ _ _ _ _ _ _ _ _).mono ?_⟩
  rintro _ v1 ⟨rfl, e1⟩
  rw [wi _ (by omega) (by omega)]
  refine ⟨_, rfl, br (fun hs => ?_) (fun hs => ?_)⟩
  · have hs : smallO o = true := hs
    rw [if_pos hs] at hseq
    obtain ⟨i1, i2⟩ := seqU_done (p := (A, D)) hI (ops := ops) j (show A.last + j < 1000000 by omega)
    replace i2 : (seqU ops (A, D) j).1.last ≤ A.last + j := i2
    have hd := stepU_does (o := o) i1 (by omega) hs
    have C2 := C1.ext e1
    refine ⟨ad, hOA, ⟨by omega, by omega⟩, _, C2.c0, _, C2.c1, _, C2.c2, _, _, _, C2.c3, _, _, _, C2.c4, (hd.run (h.ext e1) C2.k C2.v kc vc).mono ?_⟩
    rintro _ v2 ⟨rfl, T2, h2, c2⟩
    rw [← hseq] at h2
    exact ⟨rfl, ⟨j + 1, by omega, by omega, by omega, T2, h2, c.trans ((Tch.ext e1).trans c2)⟩, by dsimp only; omega⟩
  · have hs : ¬ smallO o = true := by show ¬ decide _ = true; rw [hs]; decide
    rw [if_neg hs] at hseq
    exact ⟨⟨j + 1, by omega, by omega, by omega, T, by rw [hseq]; exact h.ext e1, c.trans (.ext e1)⟩, by dsimp only; omega⟩
/-! ## two stores -/
structure Two (w u : World) (T1 T2 : Nat → Prop) (s1 s2 : Nat) (q1 q2 : Ab) : Prop where
  a : Sto T1 u s1 q1
  b : Sto T2 u s2 q2
  off : ∀ k, T1 k → ¬ T2 k
  e : Ext w u
  n1 : ∀ k, T1 k → w.heap.size ≤ k
  n2 : ∀ k, T2 k → w.heap.size ≤ k
section
variable {w u : World} {T1 T2 : Nat → Prop} {s1 s2 : Nat} {q1 q2 : Ab}
theorem Two.ext (h : Two w u T1 T2 s1 s2 q1 q2) {u' : World} (e : Ext u u') : Two w u' T1 T2 s1 s2 q1 q2 := ⟨h.a.ext e, h.b.ext e, h.off, h.e.trans' e, h.n1, h.n2⟩
theorem Two.one (h : Two w u T1 T2 s1 s2 q1 q2) {u' : World} {T' : Nat → Prop} {q' : Ab} (h' : Sto T' u' s1 q') (c : Tch T1 u T' u') : Two w u' T' T2 s1 s2 q' q2 := by
  obtain ⟨e, n⟩ := c.keepExt h.e h.n1
  obtain ⟨b, o⟩ := h.b.other c fun k h2 h1 => h.off k h1 h2
  exact ⟨h', b, fun k h1 h2 => o k h2 h1, e, n, h.n2⟩
theorem Two.two (h : Two w u T1 T2 s1 s2 q1 q2) {u' : World} {T' : Nat → Prop} {q' : Ab} (h' : Sto T' u' s2 q') (c : Tch T2 u T' u') : Two w u' T1 T' s1 s2 q1 q' := by
  obtain ⟨e, n⟩ := c.keepExt h.e h.n2
  obtain ⟨a, o⟩ := h.a.other c h.off
  exact ⟨a, h', o, e, h.n1, n⟩
end
theorem Two.start {w u1 u2 : World} {s1 s2 : Nat} {T1 T2 : Nat → Prop} {q1 q2 : Ab} (h1 : Sto T1 u1 s1 q1) (e1 : Ext w u1) (n1 : ∀ k, T1 k → w.heap.size ≤ k) (h2 : Sto T2 u2 s2 q2) (e2 : Ext u1 u2) (n2 : ∀ k, T2 k → u1.heap.size ≤ k) : Two w u2 T1 T2 s1 s2 q1 q2 :=
  ⟨h1.ext e2, h2, fun k a b => by have := h1.lt k a; have := n2 k b; omega, e1.trans' e2, n1, fun k hk => Nat.le_trans e1.size (n2 k hk)⟩
end Go.Proofs.Ythfagbfllheneaa
/- Layer 5: UndoBack. -/
set_option linter.unusedVariables false
set_option linter.unusedSimpArgs false
namespace Go.Proofs.Ythfagbfllheneaa
open Go Go.Sx T4
theorem two_take {α : Type} {a b : α} {l : List α} {i : Nat} (h : 2 ≤ i) : (a :: b :: l).take i = a :: b :: l.take (i - 2) := by
  obtain ⟨k, rfl⟩ : ∃ k, i = k + 2 := ⟨i - 2, by omega⟩
  rfl
theorem two_get {α : Type} {a b : α} {l : List α} {i : Nat} (h : 2 ≤ i) {x : α} (hx : (a :: b :: l)[i]? = some x) : x ∈ l := by
  obtain ⟨k, rfl⟩ : ∃ k, i = k + 2 := ⟨i - 2, by omega⟩
  exact List.mem_of_getElem? (show l[k]? = some x from hx)
set_option maxRecDepth 10000 in
set_option maxHeartbeats 2000000 in
theorem UndoBack_spec (most : Int) {Ωa Ωo : Nat → Prop} {w : World} {AA : Option Addr} {ac : Nat} {ahead : List Op5} (ha : Imm KOp Ωa w AA ahead) {OA : Option Addr} {oc : Nat} {since : List Op5} (ho : Imm KOp Ωo w OA since) :
    CallsV Try.prog 7 #[.int .i64 most, .slice AA ahead.length ac, .slice OA since.length oc] w fun r w' => r = .bool true ∧ Ext w w' := by
  refine cardindexlaw05_UndoBack.calls okay ?_
  unfold cardindexlaw05_UndoBack.W
  refine (Pick_spec w most 57 (by decide) (by decide)).mono ?_
  rintro _ w0 ⟨k, rfl, hk, hw0⟩
  obtain rfl : w = w0 := hw0.symm
  refine ⟨_, rfl, ?_⟩
  rw [show IntKind.i64.wrap (4 + (k : Int)) = (((4 + k : Nat)) : Int) by rw [wi _ (by omega) (by omega)]; omega]
  refine (aNew w 4 (4 + k) (by decide) (by decide) (by omega) (by omega)).mono ?_
  rintro _ u0 ⟨s, T0, rfl, h0, e0, n0⟩
  refine ⟨_, _, rfl, (kCreate h0 (by show 0 < 1000000; decide) (by show 0 < 4 + k; omega) (by decide)).mono ?_⟩
  rintro _ u1 ⟨rfl, A1, D1, T1, h1, c1, f1, m1, l1, F1⟩
  obtain ⟨e1, n1⟩ := c1.keepExt e0 n0
  replace l1 : A1.last = 1 := l1
  have hI1 : Inv A1 D1 := h1.inv
  have aw : ∀ {u : World}, Ext w u → CallsV Try.prog 23 #[] u fun v w' => ∃ x, v = .bool x ∧ ((fun r w' => r = Value.bool true ∧ Ext w w') (.bool x) w') := fun e => (awake_spec _).mono fun v w' ⟨h1, h2⟩ => ⟨true, h1, rfl, e.trans' h2⟩
  refine ⟨_, _, rfl, brn (fun h => absurd rfl h) fun _ => brn (fun h => absurd rfl h) fun _ => ⟨fun u => ∃ (T : Nat → Prop) (pA : Ar) (pD : List Tr), Sto T u s ⟨pA, pD, []⟩ ∧ Ext w u ∧ (∀ k, T k → w.heap.size ≤ k) ∧ pA.last ≤ 30, ?_, runLoop ha h1 e1 n1 25 (by decide) (by omega) (fun T v j h c hj => ?_)⟩⟩
  · clear h0 h1 c1 f1 m1 F1 e1 n1 e0 n0 hI1 l1
    rintro u ⟨T, pA, pD, h, e, n, hpl⟩
    refine (aMark h).mono ?_
    rintro _ v1 (⟨hge, _⟩ | ⟨_, rfl, T1, h1, c1⟩)
    · exact absurd (show 100 ≤ ([] : List (Ar × List Tr)).length from hge) (by decide)
    replace h1 : Sto T1 v1 s ⟨pA, pD, [(pA, pD)]⟩ := h1
    obtain ⟨e1, n1⟩ := c1.keepExt e n
    refine ⟨_, _, rfl, (taken_spec h1).mono ?_⟩
    rintro _ v2 ⟨IA, inn, ic, LA, ln, lc, nn, m, rfl, e2, S2⟩
    replace S2 : Shot T1 v2 ⟨pA, pD, [(pA, pD)]⟩ IA inn ic LA ln lc nn m := S2.keep ⟨Nat.le_refl _, fun _ _ _ => rfl, fun k _ hk => h1.lt k hk⟩
    refine ⟨_, _, _, _, _, _, _, _, rfl, ?_⟩
    intro g v3 f3
    refine ⟨f3.blk.stOK (o := 0) [_, _, _, _] 0 (by simp), fun v4 hv4 => ?_⟩
    have b4 : Blk v4 g [.slice IA inn ic, .slice LA ln lc, .int .i64 nn, .int .i64 m] := by rw [hv4]; exact Blk.setAll (o := 0) [.slice IA inn ic, .slice LA ln lc, .int .i64 nn, .int .i64 m] 0 f3.blk
    have e4 : Ext v2 v4 := by rw [hv4]; exact f3.ext.setAll f3.ge _ _
    have h4 := (h1.ext e2).ext e4
    have S4 := S2.keep (e4.step T1)
    have hg : ¬ T1 g := fun ht => by have := h1.lt g ht; have := f3.ge; have := e2.size; omega
    have e04 := (e1.trans' e2).trans' e4
    refine (aMark h4).mono ?_
    rintro _ v5 (⟨hge, _⟩ | ⟨_, rfl, T5, h5, c5⟩)
    · exact absurd (show 100 ≤ [(pA, pD)].length from hge) (by show ¬ 100 ≤ 1; decide)
    replace h5 : Sto T5 v5 s ⟨pA, pD, [(pA, pD), (pA, pD)]⟩ := h5
    obtain ⟨e5, n5⟩ := c5.keepExt e04 n1
    obtain ⟨b5, hg5⟩ := c5.blk b4 hg
    have S5 := S4.keep c5.step
    refine ⟨_, _, rfl, brn (fun h => absurd rfl h) fun _ => brn (fun h => absurd rfl h) fun _ => ⟨fun u => ∃ (T : Nat → Prop) (A : Ar) (D : List Tr) (ms : List (Ar × List Tr)), Sto T u s ⟨A, D, (pA, pD) :: (pA, pD) :: ms⟩ ∧ Tch T5 v5 T u, ?_, fun x v => ∃ j : Nat, x = (j : Int) ∧ j ≤ 60 ∧ ∃ (T : Nat → Prop) (A : Ar) (D : List Tr) (ms : List (Ar × List Tr)), Sto T v s ⟨A, D, (pA, pD) :: (pA, pD) :: ms⟩ ∧ Tch T5 v5 T v ∧ A.last ≤ 30 + j ∧ ∀ p ∈ ms, p.1.last ≤ 30 + j, fun x _ => (60 - x).toNat, ⟨0, rfl, by omega, T5, pA, pD, [], h5, .refl _ _, by omega, fun p hp => (by cases hp)⟩, ?_⟩⟩
    · clear h h1 h4 c1 c5 S2 S4 b4 hg f3 hv4 e04 e4 e2 e1
      rintro u ⟨T, A, D, ms, h, c⟩
      obtain ⟨b6, hg6⟩ := c.blk b5 hg5
      have S6 := S5.keep c.step
      refine (aBack h 2).mono ?_
      rintro _ u7 (⟨hb, _⟩ | ⟨_, _, rfl, B, D', T7, hm7, h7, c7⟩)
      · exact absurd hb (by show ¬ ((2 : Int) < 1 ∨ ((ms.length + 1 + 1 : Nat) : Int) < 2); omega)
      obtain ⟨rfl, rfl⟩ : pA = B ∧ pD = D' := by have := Option.some.inj hm7; exact ⟨(Prod.mk.inj this).1, (Prod.mk.inj this).2⟩
      replace h7 : Sto T7 u7 s ⟨pA, pD, [(pA, pD)]⟩ := h7
      obtain ⟨b7, hg7⟩ := c7.blk b6 hg6
      have S7 := S6.keep c7.step
      obtain ⟨e7, n7⟩ := (c.trans c7).keepExt e5 n5
      have ed : Ext u7 u7.drew := Fr.drew NoB u7
      refine ⟨_, rfl, brd (fun _ => ⟨fun v => Ext u7.drew v, .refl _ _, _, _, _, fun v e => ((b7.ext ed).ext e).cell rfl, _, _, _, fun v e => ((b7.ext ed).ext e).cell rfl, _, fun v e => ((b7.ext ed).ext e).cell rfl, _, fun v e => ((b7.ext ed).ext e).cell rfl, (taken_spec (h7.ext ed)).mono ?_⟩) fun h => absurd rfl h⟩
      rintro _ u8 ⟨IA', inn', ic', LA', ln', lc', nn', m', rfl, e8, S8⟩
      refine ⟨_, _, _, _, _, _, _, _, rfl, e8, (alike_spec S8 (S7.keep ((ed.trans' e8).step T7)) rfl rfl rfl h7.inv.cnt).mono ?_⟩
      rintro _ u9 ⟨rfl, e9⟩
      have e79 := (ed.trans' e8).trans' e9
      have h9 := h7.ext e79
      refine ⟨_, rfl, br (fun _ => (sMarks h9).same ⟨_, rfl, brd (fun _ => (aBack h9 2).mono ?_) fun h => absurd (by show ((1 : Nat) : Int) = IntKind.i64.wrap (((1 + 1 : Nat) : Int) - 1); decide) h⟩) fun h => by cases h⟩
      rintro r10 u10 h10
      obtain ⟨rfl, rfl⟩ : r10 = .int .i64 60 ∧ u10 = u9 := h10.elim (fun h => ⟨h.2.1, h.2.2⟩) fun h => absurd h.2.1 (by show ¬ ((2 : Int) ≤ ((1 : Nat) : Int)); decide)
      refine ⟨_, rfl, brd (fun _ => (sCheck h9).mono ?_) fun h => absurd rfl h⟩
      rintro _ u11 ⟨rfl, e11⟩
      exact ⟨_, rfl, brd (fun _ => aw ((e7.trans' e79).trans' e11)) fun h => absurd rfl h⟩
    · rintro _ v ⟨j, rfl, hj, T, A, D, ms, h, c, hla, hlm⟩
      refine brd (fun hlt => brd (fun hlt2 => ?_) (fun _ => ⟨T, A, D, ms, h, c⟩)) (fun _ => ⟨T, A, D, ms, h, c⟩)
      have hjl : j < since.length := by omega
      refine ⟨fun u => ∃ (T : Nat → Prop) (A : Ar) (D : List Tr) (ms : List (Ar × List Tr)), Sto T u s ⟨A, D, (pA, pD) :: (pA, pD) :: ms⟩ ∧ Tch T5 v5 T u ∧ A.last ≤ 30 + (j + 1) ∧ ∀ p ∈ ms, p.1.last ≤ 30 + (j + 1), ?_, ?_⟩
      · rintro u ⟨T, A, D, ms, h, c, hla, hlm⟩
        rw [wi _ (by omega) (by omega)]
        exact ⟨⟨j + 1, by omega, by omega, T, A, D, ms, h, c, hla, hlm⟩, by dsimp only; omega⟩
      obtain ⟨ev, nv⟩ := c.keepExt e5 n5
      obtain ⟨ad, KA, kc, VA, vc, hOA, C⟩ := opC ho hjl
      generalize since[j] = o at C
      have tn : ((j : Nat) : Int).toNat = j := Int.toNat_natCast j
      have C1 := C.ext ev
      rw [tn]
      refine ⟨ad, hOA, ⟨by omega, by omega⟩, _, C1.c0, _, C1.c1, _, C1.c2, _, _, _, C1.c3, _, _, _, C1.c4, ?_⟩
      intro g2 u1 f1
      refine ⟨f1.blk.stOK (o := 0) [_, _, _, _, _] 0 (by simp), fun u2 hu2 => ?_⟩
      have bo : Blk u2 g2 [.int .i64 o.kind, .int .i64 o.id, .int .i64 o.n, .slice KA o.key.length kc, .slice VA o.val.length vc] := by rw [hu2]; exact Blk.setAll (o := 0) [.int .i64 o.kind, .int .i64 o.id, .int .i64 o.n, .slice KA o.key.length kc, .slice VA o.val.length vc] 0 f1.blk
      have ev2 : Ext v u2 := by rw [hu2]; exact f1.ext.setAll f1.ge _ _
      refine ⟨fun u => ∃ (T : Nat → Prop) (A : Ar) (D : List Tr) (ms : List (Ar × List Tr)), Sto T u s ⟨A, D, (pA, pD) :: (pA, pD) :: ms⟩ ∧ Tch T5 v5 T u ∧ A.last ≤ 30 + (j + 1) ∧ ∀ p ∈ ms, p.1.last ≤ 30 + (j + 1), ?_, _, bo.cell rfl, _, bo.cell rfl, _, bo.cell rfl, _, _, _, bo.cell rfl, _, _, _, bo.cell rfl, (small_spec _ _ _ _ _ _ _ _ _).mono ?_⟩
      · rintro u ⟨T, A, D, ms, h, c, hla, hlm⟩
        refine (sMarks h).same ⟨_, rfl, brd (fun hlt => absurd hlt ?_) fun _ => (sCheck h).mono ?_⟩
        · show ¬ ((ms.length + 1 + 1 : Nat) : Int) < ((0 + 1 + 1 : Nat) : Int)
          omega
        · rintro _ u' ⟨rfl, e'⟩
          exact ⟨_, rfl, brn (fun h => absurd rfl h) fun _ => ⟨T, A, D, ms, h.ext e', c.trans (.ext e'), hla, hlm⟩⟩
      rintro _ u3 ⟨rfl, e3⟩
      have b3 := bo.ext e3
      have e23 := ev2.trans' e3
      have h3 := h.ext e23
      have c3 := c.trans (.ext e23)
      have C3 := C1.ext e23
      have hI : Inv A D := h.inv
      have up : ∀ p ∈ ms, p.1.last ≤ 30 + (j + 1) := fun p hp => Nat.le_succ_of_le (hlm p hp)
      refine ⟨_, rfl, brnb (fun hs => ⟨T, A, D, ms, h3, c3, by omega, up⟩) (fun hs => ?_)⟩
      have hs : smallO o = true := hs
      have hdoes : CallsV Try.prog 17 #[.pointer (some ⟨s, 0, none⟩), .agg #[.int .i64 o.kind, .int .i64 o.id, .int .i64 o.n, .slice KA o.key.length kc, .slice VA o.val.length vc]] u3 fun r u => r = .tuple #[] ∧ ∃ (T : Nat → Prop) (A : Ar) (D : List Tr) (ms : List (Ar × List Tr)), Sto T u s ⟨A, D, (pA, pD) :: (pA, pD) :: ms⟩ ∧ Tch T5 v5 T u ∧ A.last ≤ 30 + (j + 1) ∧ ∀ p ∈ ms, p.1.last ≤ 30 + (j + 1) := by
        obtain ⟨A', D', hd⟩ := does_ex hI (by omega) hs
        refine (hd.run h3 C3.k C3.v kc vc).mono ?_
        rintro _ u4 ⟨rfl, T4, h4, c4⟩
        exact ⟨rfl, T4, A', D', ms, h4, c3.trans c4, by have := hd.done.last; omega, up⟩
      refine ⟨_, b3.cell rfl, brd (fun _ => (aMark h3).mono ?_) fun _ => ⟨_, b3.cell rfl, brd (fun _ => ⟨_, b3.cell rfl, brd (fun hn => ⟨_, b3.cell rfl, (aBack h3 _).mono ?_⟩) fun _ => ⟨_, b3.cell rfl, brd (fun _ => ⟨_, b3.cell rfl, brd (fun hn => ⟨_, b3.cell rfl, (aFree h3 _).mono ?_⟩) fun _ => ⟨_, b3.cell rfl, _, b3.cell rfl, _, b3.cell rfl, _, _, _, b3.cell rfl, _, _, _, b3.cell rfl, hdoes⟩⟩) fun _ => ⟨_, b3.cell rfl, _, b3.cell rfl, _, b3.cell rfl, _, _, _, b3.cell rfl, _, _, _, b3.cell rfl, hdoes⟩⟩⟩) fun _ => ⟨_, b3.cell rfl, brd (fun _ => ⟨_, b3.cell rfl, brd (fun hn => ⟨_, b3.cell rfl, (aFree h3 _).mono ?_⟩) fun _ => ⟨_, b3.cell rfl, _, b3.cell rfl, _, b3.cell rfl, _, _, _, b3.cell rfl, _, _, _, b3.cell rfl, hdoes⟩⟩) fun _ => ⟨_, b3.cell rfl, _, b3.cell rfl, _, b3.cell rfl, _, _, _, b3.cell rfl, _, _, _, b3.cell rfl, hdoes⟩⟩⟩⟩
      · rintro _ u4 (⟨_, rfl, e4⟩ | ⟨_, rfl, T4, h4, c4⟩)
        · exact ⟨_, _, rfl, T, A, D, ms, h3.ext e4, c3.trans (.ext e4), by omega, up⟩
        · refine ⟨_, _, rfl, T4, A, D, ms ++ [(A, D)], h4, c3.trans c4, by omega, fun p hp => ?_⟩
          rcases List.mem_append.1 hp with hp | hp
          · exact up p hp
          · obtain rfl := List.mem_singleton.1 hp; show A.last ≤ _; omega
      · rintro _ u4 (⟨_, rfl, rfl⟩ | ⟨_, _, rfl, B, D', T4, hm4, h4, c4⟩)
        · exact ⟨_, rfl, T, A, D, ms, h3, c3, by omega, up⟩
        · replace hn : (2 : Int) < o.n := hn
          replace h4 : Sto T4 u4 s ⟨B, D', ((pA, pD) :: (pA, pD) :: ms).take (o.n - 1).toNat⟩ := h4
          rw [two_take (by omega)] at h4
          have hB := up _ (two_get (by omega) hm4)
          exact ⟨_, rfl, T4, B, D', _, h4, c3.trans c4, hB, fun p hp => up p ((List.take_sublist _ _).subset hp)⟩
      all_goals
        rintro _ u4 (⟨_, rfl, rfl⟩ | ⟨_, _, rfl, T4, h4, c4⟩)
        · exact ⟨_, rfl, T, A, D, ms, h3, c3, by omega, up⟩
        · replace hn : (2 : Int) < o.n := hn
          replace h4 : Sto T4 u4 s ⟨A, D, ((pA, pD) :: (pA, pD) :: ms).take (o.n - 1).toNat⟩ := h4
          rw [two_take (by omega)] at h4
          exact ⟨_, rfl, T4, A, D, _, h4, c3.trans c4, by omega, fun p hp => up p ((List.take_sublist _ _).subset hp)⟩
  · obtain ⟨e, n⟩ := c.keepExt e1 n1
    obtain ⟨_, hl⟩ := seqU_done (p := (A1, D1)) hI1 (ops := ahead) j (by show A1.last + j < 1000000; omega)
    exact ⟨T, _, _, h, e, n, by have : (seqU ahead (A1, D1) j).1.last ≤ A1.last + j := hl; omega⟩
end Go.Proofs.Ythfagbfllheneaa
/- Layer 5: an argument of calls. -/
set_option linter.unusedVariables false
namespace Go.Proofs.Ythfagbfllheneaa
open Go Go.Sx
theorem opens_Bs : Opens Try.prog 28 KBs (fun l => l.length ≤ maxLen ∧ ∀ a ∈ l, True) := opens_slice Try.underlying28 (by kernel_rfl) KB_pos (opens_u8 Try.underlying5)
theorem opens_Op : Opens Try.prog 30 KOp (fun _ => True) := by
  intro H enc w fuel cs x hx
  obtain ⟨hl, hf⟩ := opens_fields (by kernel_rfl) hx
  have hl3 : cs.length = 5 := hl.trans (by kernel_rfl)
  obtain ⟨k, hk, _⟩ := hf (K := Kd.int .i64) 0 (ft := 3) (off := 0) (by kernel_rfl) (by kernel_rfl) (opens_int Try.underlying3)
  obtain ⟨r, hr, _⟩ := hf (K := Kd.int .i64) 1 (ft := 3) (off := 1) (by kernel_rfl) (by kernel_rfl) (opens_int Try.underlying3)
  obtain ⟨n, hn, _⟩ := hf (K := Kd.int .i64) 2 (ft := 3) (off := 2) (by kernel_rfl) (by kernel_rfl) (opens_int Try.underlying3)
  obtain ⟨a, ha, _⟩ := hf (K := KBs) 3 (ft := 28) (off := 3) (by kernel_rfl) (by kernel_rfl) opens_Bs
  obtain ⟨b, hb, _⟩ := hf (K := KBs) 4 (ft := 28) (off := 4) (by kernel_rfl) (by kernel_rfl) opens_Bs
  match cs, hl3 with
  | [c0, c1, c2, c3, c4], _ =>
    have hk : [c0] = [.int .i64 k] := hk
    have hr : [c1] = [.int .i64 r] := hr
    have hn : [c2] = [.int .i64 n] := hn
    cases hk; cases hr; cases hn
    exact ⟨⟨k, r, n, a, b⟩, ⟨_, _, rfl, ha, hb⟩, trivial⟩
end Go.Proofs.Ythfagbfllheneaa
