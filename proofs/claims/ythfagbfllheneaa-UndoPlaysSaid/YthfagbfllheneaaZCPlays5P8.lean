/- Part 8 of the texts of this claim: the engine, contracts, plain laws. -/
import Derived.Test.YthfagbfllheneaaProg
import Derived.Test.YthfagbfllheneaaZCPlays5P1
import Derived.Test.YthfagbfllheneaaZCPlays5P7
import Derived.Test.YthfagbfllheneaaZCPlays5P2
set_option linter.unusedVariables false
set_option maxRecDepth 100000
namespace Go.Proofs.Ythfagbfllheneaa
open Go Go.Sx
noncomputable def cardindexlaw05_same.W : Option Addr → Option Addr → Nat → Nat → Int → Option Addr → Nat → Nat → World → (Value → World → Prop) → Prop := fun (s wx0_A : Option Addr) (wx0_n wx0_c :
 Nat) (wx1 : Int) (wx2_A : Option Addr) (wx2_n wx2_c : Nat) (w : World) (K : Value → World → Prop) => ∀ (g : Nat) (w' : World), Fresh w g w' [Value.slice wx0_A wx0_n wx0_c, Value.int IntKind.i64 wx1,
 Value.slice wx2_A wx2_n wx2_c] 64 → ∃ (I : Int → World → Prop) (μ : Int → World → Nat), I (0 : Int) w' ∧ ∀ (x : Int) (w : World), I x w → ∃ (x_1 : Option Addr) (x_2 x_3 : Nat), World.cell? w (Addr.add
 (Addr.add (Addr.mk g 0 none) 0) 0) = some (Value.slice x_1 x_2 x_3) ∧ bif decide (x < (↑x_2 : Int)) then ∃ (x_4 : Option Addr) (x_5 x_6 : Nat), World.cell? w (Addr.add (Addr.add
 (Addr.mk g 0 none) 0) 0) = some (Value.slice x_4 x_5 x_6) ∧ ∃ (ad : Addr), x_4 = some ad ∧ ((0 : Int) ≤ x ∧ x < (↑x_5 : Int)) ∧ ∃ (x_7 : Int), World.cell? w (Addr.add (Addr.add ad
 (Int.toNat x * 2)) 0) = some (Value.int IntKind.i64 x_7) ∧ ∃ (x_8 : Option Addr) (x_9 x_10 : Nat), World.cell? w (Addr.add (Addr.add ad (Int.toNat x * 2)) 1) = some (Value.slice x_8 x_9
 x_10) ∧ ∀ (g : Nat) (w' : World), Fresh w g w' [Value.int IntKind.i64 (0 : Int), Value.slice none 0 0] 132 → stOK (Addr.mk g 0 none) 0 [Value.int IntKind.i64 x_7, Value.slice x_8 x_9
 x_10] w' ∧ ∀ (w'_1 : World), w'_1 = setAll (Addr.mk g 0 none) 0 [Value.int IntKind.i64 x_7, Value.slice x_8 x_9 x_10] w' → ∃ (S : World → Prop), S (World.drew w'_1) ∧ ∃ (x_11 : Int), (∀ (u :
 World), S u → World.cell? u (Addr.add (Addr.mk g 0 none) 0) = some (Value.int IntKind.i64 x_11)) ∧ ∃ (x_12 : Option Addr) (x_13 x_14 : Nat), (∀ (u : World), S u → World.cell? u (Addr.add
 (Addr.mk g 0 none) 1) = some (Value.slice x_12 x_13 x_14)) ∧ CallsV Try.prog 34 #[Value.pointer s, Value.int IntKind.i64 x_11] (World.drew w'_1) fun (v : Value) (w' : World) => ∃ (x_15 :
 Int), v = Value.int IntKind.i64 x_15 ∧ S w' ∧ bif !decide (x_15 = (↑x_13 : Int)) then K (Value.bool false) w' else ∃ (x_16 : Int), World.cell? w' (Addr.add (Addr.mk g 0 none) 0) =
 some (Value.int IntKind.i64 x_16) ∧ CallsV Try.prog 50 #[Value.pointer s, Value.int IntKind.i64 x_16, Value.slice none 0 0, Value.bool true] w' fun (v : Value) (w' : World) => ∃
 (x_17 : Option Addr) (x_18 x_19 : Nat) (x_20 : Option Addr) (x_21 x_22 : Nat) (x_23 : Bool), v = Value.tuple #[Value.slice x_17 x_18 x_19, Value.slice x_20 x_21 x_22, Value.bool x_23] ∧ ∃ (I_1 : Option
 Addr → Nat → Nat → Option Addr → Nat → Nat → Bool → Int → World → Prop) (μ_1 : Option Addr → Nat → Nat → Option Addr → Nat → Nat → Bool → Int → World → Nat), I_1 x_17 x_18 x_19 x_20 x_21 x_22 x_23 (0 :
 Int) w' ∧ ∀ (x_24 : Option Addr) (x_25 x_26 : Nat) (x_27 : Option Addr) (x_28 x_29 : Nat) (x_30 : Bool) (x_31 : Int) (w_1 : World), I_1 x_24 x_25 x_26 x_27 x_28 x_29 x_30 x_31 w_1 → ∃ (x_32 : Option
 Addr) (x_33 x_34 : Nat), World.cell? w_1 (Addr.add (Addr.mk g 0 none) 1) = some (Value.slice x_32 x_33 x_34) ∧ bif decide (x_31 < (↑x_33 : Int)) then bif !x_30 then K
 (Value.bool false) w_1 else ∃ (x : Option Addr) (x_35 x_36 : Nat), World.cell? w_1 (Addr.add (Addr.mk g 0 none) 1) = some (Value.slice x x_35 x_36) ∧ ∃ (ad : Addr), x = some
 ad ∧ ((0 : Int) ≤ x_31 ∧ x_31 < (↑x_35 : Int)) ∧ ∃ (x : Option Addr) (x_37 x_38 : Nat), World.cell? w_1 (Addr.add (Addr.add ad (Int.toNat x_31 * 2)) 0) = some (Value.slice x x_37 x_38) ∧ CallsV
 Try.prog 68 #[Value.slice x_24 x_25 x_26, Value.slice x x_37 x_38] w_1 fun (v : Value) (w' : World) => ∃ (x : Bool), v = Value.bool x ∧ bif !x then K (Value.bool false) w' else ∃ (x : Option Addr)
 (x_39 x_40 : Nat), World.cell? w' (Addr.add (Addr.mk g 0 none) 1) = some (Value.slice x x_39 x_40) ∧ ∃ (ad : Addr), x = some ad ∧ ((0 : Int) ≤ x_31 ∧ x_31 < (↑x_39 : Int)) ∧ ∃ (x :
 Option Addr) (x_41 x_42 : Nat), World.cell? w' (Addr.add (Addr.add ad (Int.toNat x_31 * 2)) 1) = some (Value.slice x x_41 x_42) ∧ CallsV Try.prog 68 #[Value.slice x_27 x_28 x_29, Value.slice x
 x_41 x_42] w' fun (v : Value) (w' : World) => ∃ (x : Bool), v = Value.bool x ∧ bif !x then K (Value.bool false) w' else ∃ (x : Int), World.cell? w' (Addr.add (Addr.mk g 0 none) 0) =
 some (Value.int IntKind.i64 x) ∧ CallsV Try.prog 50 #[Value.pointer s, Value.int IntKind.i64 x, Value.slice x_24 x_25 x_26, Value.bool false] w' fun (v : Value) (w' : World) => ∃ (x :
 Option Addr) (x_43 x_44 : Nat) (x_45 : Option Addr) (x_46 x_47 : Nat) (x_48 : Bool), v = Value.tuple #[Value.slice x x_43 x_44, Value.slice x_45 x_46 x_47, Value.bool x_48] ∧ I_1 x x_43 x_44 x_45 x_46
 x_47 x_48 (IntKind.wrap IntKind.i64 (x_31 + (1 : Int))) w' ∧ μ_1 x x_43 x_44 x_45 x_46 x_47 x_48 (IntKind.wrap IntKind.i64 (x_31 + (1 : Int))) w' < μ_1 x_24 x_25 x_26 x_27 x_28 x_29 x_30 x_31 w_1 else
 ∃ (x_35 : Int), World.cell? w_1 (Addr.add (Addr.mk g 0 none) 0) = some (Value.int IntKind.i64 x_35) ∧ CallsV Try.prog 52 #[Value.pointer s, Value.int IntKind.i64 x_35] w_1 fun (v : Value)
 (w' : World) => ∃ (x_36 : Option Addr) (x_37 x_38 : Nat) (x_39 : Option Addr) (x_40 x_41 : Nat) (x_42 : Bool), v = Value.tuple #[Value.slice x_36 x_37 x_38, Value.slice x_39 x_40 x_41, Value.bool x_42]
 ∧ ∃ (x_43 : Option Addr) (x_44 x_45 : Nat), World.cell? w' (Addr.add (Addr.mk g 0 none) 1) = some (Value.slice x_43 x_44 x_45) ∧ bif !decide (x_42 = decide ((0 : Int)
 < (↑x_44 : Int))) then K (Value.bool false) w' else bif x_42 then ∃ (x_46 : Option Addr) (x_47 x_48 : Nat), World.cell? w' (Addr.add (Addr.mk g 0 none) 1) = some (Value.slice x_46
 x_47 x_48) ∧ ∃ (x_49 : Option Addr) (x_50 x_51 : Nat), World.cell? w' (Addr.add (Addr.mk g 0 none) 1) = some (Value.slice x_49 x_50 x_51) ∧ ∃ (ad : Addr), x_46 = some ad ∧ ((0 :
 Int) ≤ IntKind.wrap IntKind.i64 ((↑x_50 : Int) - (1 : Int)) ∧ IntKind.wrap IntKind.i64 ((↑x_50 : Int) - (1 : Int)) < (↑x_47 : Int)) ∧ ∃ (x_52 : Option Addr) (x_53 x_54 : Nat), World.cell? w' (Addr.add
 (Addr.add ad (Int.toNat (IntKind.wrap IntKind.i64 ((↑x_50 : Int) - (1 : Int))) * 2)) 0) = some (Value.slice x_52 x_53 x_54) ∧ CallsV Try.prog 68 #[Value.slice x_36 x_37 x_38, Value.slice x_52
 x_53 x_54] w' fun (v : Value) (w' : World) => ∃ (x_55 : Bool), v = Value.bool x_55 ∧ bif !x_55 then K (Value.bool false) w' else I (IntKind.wrap IntKind.i64 (x + (1 : Int))) w' ∧ μ (IntKind.wrap
 IntKind.i64 (x + (1 : Int))) w' < μ x w else I (IntKind.wrap IntKind.i64 (x + (1 : Int))) w' ∧ μ (IntKind.wrap IntKind.i64 (x + (1 : Int))) w' < μ x w else K (Value.bool true) w
theorem cardindexlaw05_same.calls (ok : Okay Try.prog) {s : Option Addr} {wx0_A : Option Addr} {wx0_n : Nat} {wx0_c : Nat} {wx1 : Int} {wx2_A : Option Addr} {wx2_n : Nat} {wx2_c : Nat} {w : World} {K : Value → World → Prop} (h : cardindexlaw05_same.W s wx0_A wx0_n wx0_c wx1 wx2_A wx2_n wx2_c w K) : CallsV Try.prog 48 #[.pointer s, .agg #[.slice wx0_A wx0_n wx0_c, .int .i64 wx1, .slice wx2_A wx2_n wx2_c]] w K :=
  fnW_calls ok Try.func48 (an := (.named (.seq .auto (.seq (.seq .auto (.block (.loop [(5, .one (.int .i64))] (.seq .auto (.seq (.block (.seq .auto (.seq .auto (.seq .auto (.seq (.seq .auto (.block (.loop [(7, .one .slc), (8, .one .slc), (9, .one .bool), (10, .one (.int .i64))] .auto))) .auto))))) .auto))))) .auto)))) (args := [.pointer s, .agg #[.slice wx0_A wx0_n wx0_c, .int .i64 wx1, .slice wx2_A wx2_n wx2_c]]) (Eq.mp (by kernel_rfl) h)
noncomputable def cardindexlaw05_UndoPlays.W : Int → Int → Option Addr → Nat → Nat → World → (Value → World → Prop) → Prop := fun (fan most : Int) (ops_A : Option Addr) (ops_n ops_c : Nat) (w : World)
 (K : Value → World → Prop) => CallsV Try.prog 15 #[Value.int IntKind.i64 fan, Value.int IntKind.i64 most] w fun (v : Value) (w' : World) => ∃ (x : Option Addr) (x_1 : Int), v = Value.tuple
 #[Value.pointer x, Value.int IntKind.i64 x_1] ∧ bif !decide (x_1 = (0 : Int)) then bif Option.isNone x then CallsV Try.prog 23 #[] w' fun (v : Value) (w' : World) => ∃ (x : Bool), v =
 Value.bool x ∧ K (Value.bool x) w' else K (Value.bool false) w' else ∀ (g : Nat) (w'_1 : World), Fresh w' g w'_1 [Value.slice none 0 0, Value.int IntKind.i64 (0 : Int), Value.slice
 none 0 0] 64 → ∃ (I : Int → World → Prop) (μ : Int → World → Nat), I (0 : Int) w'_1 ∧ ∀ (x_2 : Int) (w : World), I x_2 w → bif decide (x_2 < (↑ops_n : Int)) then bif decide
 (x_2 < (80 : Int)) then ∃ (J : World → Prop), (∀ (w_1 : World), J w_1 → I (IntKind.wrap IntKind.i64 (x_2 + (1 : Int))) w_1 ∧ μ (IntKind.wrap IntKind.i64 (x_2 + (1 : Int))) w_1 < μ x_2 w) ∧ ∃ (ad :
 Addr), ops_A = some ad ∧ ((0 : Int) ≤ x_2 ∧ x_2 < (↑ops_n : Int)) ∧ ∃ (x_3 : Int), World.cell? w (Addr.add (Addr.add ad (Int.toNat x_2 * 5)) 0) = some (Value.int IntKind.i64 x_3) ∧ ∃ (x_4
 : Int), World.cell? w (Addr.add (Addr.add ad (Int.toNat x_2 * 5)) 1) = some (Value.int IntKind.i64 x_4) ∧ ∃ (x_5 : Int), World.cell? w (Addr.add (Addr.add ad (Int.toNat x_2 * 5)) 2) =
 some (Value.int IntKind.i64 x_5) ∧ ∃ (x_6 : Option Addr) (x_7 x_8 : Nat), World.cell? w (Addr.add (Addr.add ad (Int.toNat x_2 * 5)) 3) = some (Value.slice x_6 x_7 x_8) ∧ ∃ (x_9 : Option
 Addr) (x_10 x_11 : Nat), World.cell? w (Addr.add (Addr.add ad (Int.toNat x_2 * 5)) 4) = some (Value.slice x_9 x_10 x_11) ∧ ∀ (g_1 : Nat) (w' : World), Fresh w g_1 w' [Value.int IntKind.i64 (0 :
 Int), Value.int IntKind.i64 (0 : Int), Value.int IntKind.i64 (0 : Int), Value.slice none 0 0, Value.slice none 0 0] 30 → stOK (Addr.mk g_1 0 none) 0 [Value.int IntKind.i64 x_3,
 Value.int IntKind.i64 x_4, Value.int IntKind.i64 x_5, Value.slice x_6 x_7 x_8, Value.slice x_9 x_10 x_11] w' ∧ ∀ (w'_2 : World), w'_2 = setAll (Addr.mk g_1 0 none) 0 [Value.int IntKind.i64 x_3,
 Value.int IntKind.i64 x_4, Value.int IntKind.i64 x_5, Value.slice x_6 x_7 x_8, Value.slice x_9 x_10 x_11] w' → ∃ (x_12 : Option Addr) (x_13 x_14 : Nat), World.cell? w'_2 (Addr.add (Addr.mk g_1 0
 none) 3) = some (Value.slice x_12 x_13 x_14) ∧ bif decide ((100 : Int) < (↑x_13 : Int)) then J w'_2 else ∃ (x_15 : Option Addr) (x_16 x_17 : Nat), World.cell? w'_2 (Addr.add
 (Addr.mk g_1 0 none) 4) = some (Value.slice x_15 x_16 x_17) ∧ bif decide ((100 : Int) < (↑x_16 : Int)) then J w'_2 else ∃ (x_18 : Option Addr) (x_19 x_20 : Nat), World.cell?
 w'_2 (Addr.add (Addr.add (Addr.mk g 0 none) 0) 0) = some (Value.slice x_18 x_19 x_20) ∧ ∃ (x_21 : Int), World.cell? w'_2 (Addr.add (Addr.add (Addr.mk g 0 none) 0) 1) = some
 (Value.int IntKind.i64 x_21) ∧ ∃ (x_22 : Int), World.cell? w'_2 (Addr.add (Addr.mk g_1 0 none) 1) = some (Value.int IntKind.i64 x_22) ∧ CallsV Try.prog 36 #[Value.agg #[Value.slice x_18
 x_19 x_20, Value.int IntKind.i64 x_21], Value.int IntKind.i64 x_22] w'_2 fun (v : Value) (w' : World) => ∃ (x_23 : Int), v = Value.int IntKind.i64 x_23 ∧ ∃ (J_1 : Int → Int → Int → Int → World → Prop),
 (∀ (x_24 x_25 x_26 x_27 : Int) (w : World), J_1 x_24 x_25 x_26 x_27 w → bif !decide (x_24 = x_25) then K (Value.bool false) (World.drew w) else bif !decide (x_26 = x_27) then K
 (Value.bool false) (World.drew w) else CallsV Try.prog 35 #[Value.pointer x] (World.drew w) fun (v : Value) (w' : World) => ∃ (x_28 : Int), v = Value.int IntKind.i64 x_28 ∧ bif !decide
 (x_28 = (0 : Int)) then K (Value.bool false) w' else ∃ (S : World → Prop), S w' ∧ ∃ (x_29 : Option Addr) (x_30 x_31 : Nat), (∀ (u : World), S u → World.cell? u (Addr.add (Addr.mk g 0 none)
 2) = some (Value.slice x_29 x_30 x_31)) ∧ CallsV Try.prog 24 #[Value.pointer x] w' fun (v : Value) (w' : World) => ∃ (x_32 : Int), v = Value.int IntKind.i64 x_32 ∧ S w' ∧ bif !decide
 (x_32 = (↑x_30 : Int)) then K (Value.bool false) w' else ∃ (S_1 : World → Prop), S_1 w' ∧ ∃ (x_33 : Option Addr) (x_34 x_35 : Nat), (∀ (u : World), S_1 u → World.cell? u (Addr.add (Addr.mk g 0
 none) 0) = some (Value.slice x_33 x_34 x_35)) ∧ ∃ (x_36 : Int), (∀ (u : World), S_1 u → World.cell? u (Addr.add (Addr.mk g 0 none) 1) = some (Value.int IntKind.i64 x_36)) ∧
 ∃ (x_37 : Option Addr) (x_38 x_39 : Nat), (∀ (u : World), S_1 u → World.cell? u (Addr.add (Addr.mk g 0 none) 2) = some (Value.slice x_37 x_38 x_39)) ∧ CallsV Try.prog 33 #[Value.pointer
 x] w' fun (v : Value) (w' : World) => ∃ (x_40 : Option Addr) (x_41 x_42 : Nat), v = Value.slice x_40 x_41 x_42 ∧ S_1 w' ∧ S w' ∧ CallsV Try.prog 47 #[Value.agg #[Value.slice x_33 x_34 x_35, Value.int
 IntKind.i64 x_36, Value.slice x_37 x_38 x_39]] w' fun (v : Value) (w' : World) => ∃ (x_43 : Option Addr) (x_44 x_45 : Nat), v = Value.slice x_43 x_44 x_45 ∧ S w' ∧ CallsV Try.prog 32 #[Value.slice x_40
 x_41 x_42, Value.slice x_43 x_44 x_45] w' fun (v : Value) (w' : World) => ∃ (x_46 : Bool), v = Value.bool x_46 ∧ S w' ∧ bif !x_46 then K (Value.bool false) w' else ∃ (S_2 : World → Prop), S_2 w' ∧
 ∃ (x_47 : Option Addr) (x_48 x_49 : Nat), (∀ (u : World), S_2 u → World.cell? u (Addr.add (Addr.mk g 0 none) 0) = some (Value.slice x_47 x_48 x_49)) ∧ ∃ (x_50 : Int), (∀ (u : World), S_2
 u → World.cell? u (Addr.add (Addr.mk g 0 none) 1) = some (Value.int IntKind.i64 x_50)) ∧ ∃ (x_51 : Option Addr) (x_52 x_53 : Nat), (∀ (u : World), S_2 u → World.cell? u (Addr.add (Addr.mk
 g 0 none) 2) = some (Value.slice x_51 x_52 x_53)) ∧ CallsV Try.prog 48 #[Value.pointer x, Value.agg #[Value.slice x_47 x_48 x_49, Value.int IntKind.i64 x_50, Value.slice x_51 x_52 x_53]]
 w' fun (v : Value) (w' : World) => ∃ (x : Bool), v = Value.bool x ∧ S w' ∧ bif !x then K (Value.bool false) w' else J w') ∧ ∃ (x_24 : Int), World.cell? w' (Addr.add (Addr.mk g_1 0 none) 0)
 = some (Value.int IntKind.i64 x_24) ∧ ∃ (J : Bool → World → Prop), (∀ (x_25 : Bool) (w : World), J x_25 w → bif x_25 then ∃ (x_26 : Int), World.cell? w (Addr.add (Addr.mk g_1 0 none) 1) =
 some (Value.int IntKind.i64 x_26) ∧ ∃ (x_27 : Option Addr) (x_28 x_29 : Nat), World.cell? w (Addr.add (Addr.mk g_1 0 none) 3) = some (Value.slice x_27 x_28 x_29) ∧ ∃ (x_30 : Option
 Addr) (x_31 x_32 : Nat), World.cell? w (Addr.add (Addr.mk g_1 0 none) 4) = some (Value.slice x_30 x_31 x_32) ∧ CallsV Try.prog 29 #[Value.pointer x, Value.int IntKind.i64 x_26,
 Value.slice x_27 x_28 x_29, Value.slice x_30 x_31 x_32] w fun (v : Value) (w' : World) => ∃ (x_33 : Bool) (x_34 : Int), v = Value.tuple #[Value.bool x_33, Value.int IntKind.i64 x_34] ∧ bif
 decide (x_23 < (0 : Int)) then J_1 x_34 (41 : Int) (0 : Int) (0 : Int) w' else bif decide (x_34 = (0 : Int)) then ∃ (x : Option Addr) (x_35 x_36 : Nat), World.cell? w' (Addr.add
 (Addr.add (Addr.mk g 0 none) 0) 0) = some (Value.slice x x_35 x_36) ∧ ∃ (x_37 : Int), World.cell? w' (Addr.add (Addr.add (Addr.mk g 0 none) 0) 1) = some (Value.int
 IntKind.i64 x_37) ∧ ∃ (x_38 : Option Addr) (x_39 x_40 : Nat), World.cell? w' (Addr.add (Addr.mk g_1 0 none) 3) = some (Value.slice x_38 x_39 x_40) ∧ CallsV Try.prog 37 #[Value.agg
 #[Value.slice x x_35 x_36, Value.int IntKind.i64 x_37], Value.int IntKind.i64 x_23, Value.slice x_38 x_39 x_40] w' fun (v : Value) (w' : World) => ∃ (x : Int) (x_41 : Bool), v = Value.tuple #[Value.int
 IntKind.i64 x, Value.bool x_41] ∧ bif !decide (x_33 = x_41) then K (Value.bool false) w' else ∃ (x : Option Addr) (x_42 x_43 : Nat), World.cell? w' (Addr.add (Addr.add (Addr.mk g 0
 none) 0) 0) = some (Value.slice x x_42 x_43) ∧ ∃ (x_44 : Int), World.cell? w' (Addr.add (Addr.add (Addr.mk g 0 none) 0) 1) = some (Value.int IntKind.i64 x_44) ∧ ∃ (x_45 :
 Option Addr) (x_46 x_47 : Nat), World.cell? w' (Addr.add (Addr.mk g_1 0 none) 3) = some (Value.slice x_45 x_46 x_47) ∧ ∃ (x_48 : Option Addr) (x_49 x_50 : Nat), World.cell? w' (Addr.add
 (Addr.mk g_1 0 none) 4) = some (Value.slice x_48 x_49 x_50) ∧ CallsV Try.prog 38 #[Value.agg #[Value.slice x x_42 x_43, Value.int IntKind.i64 x_44], Value.int IntKind.i64 x_23,
 Value.slice x_45 x_46 x_47, Value.slice x_48 x_49 x_50] w' fun (v : Value) (w' : World) => ∃ (x : Option Addr) (x_51 x_52 : Nat) (x_53 : Int), v = Value.agg #[Value.slice x x_51 x_52, Value.int
 IntKind.i64 x_53] ∧ stOK (Addr.add (Addr.mk g 0 none) 0) 0 [Value.slice x x_51 x_52, Value.int IntKind.i64 x_53] w' ∧ ∀ (w'_3 : World), w'_3 = setAll (Addr.add (Addr.mk g 0 none) 0) 0
 [Value.slice x x_51 x_52, Value.int IntKind.i64 x_53] w' → J_1 (0 : Int) (0 : Int) (0 : Int) (0 : Int) w'_3 else bif !decide (x_34 = (5 : Int)) then K (Value.bool false) w' else CallsV
 Try.prog 39 #[Value.pointer x] w' fun (v : Value) (w' : World) => ∃ (x : Int), v = Value.int IntKind.i64 x ∧ bif decide (IntKind.wrap IntKind.i64 (x + (16 : Int)) ≤ most) then K (Value.bool
 false) w' else J_1 (0 : Int) (0 : Int) (0 : Int) (0 : Int) w' else ∃ (J : Bool → World → Prop), (∀ (x_26 : Bool) (w : World), J x_26 w → bif x_26 then ∃ (x_27 : Int), World.cell? w (Addr.add
 (Addr.mk g_1 0 none) 1) = some (Value.int IntKind.i64 x_27) ∧ ∃ (x_28 : Option Addr) (x_29 x_30 : Nat), World.cell? w (Addr.add (Addr.mk g_1 0 none) 3) = some (Value.slice
 x_28 x_29 x_30) ∧ CallsV Try.prog 40 #[Value.pointer x, Value.int IntKind.i64 x_27, Value.slice x_28 x_29 x_30] w fun (v : Value) (w' : World) => ∃ (x : Bool) (x_31 : Int), v = Value.tuple #[Value.bool
 x, Value.int IntKind.i64 x_31] ∧ bif decide (x_23 < (0 : Int)) then J_1 x_31 (41 : Int) (0 : Int) (0 : Int) w' else ∃ (x_32 : Option Addr) (x_33 x_34 : Nat), World.cell? w' (Addr.add
 (Addr.add (Addr.mk g 0 none) 0) 0) = some (Value.slice x_32 x_33 x_34) ∧ ∃ (x_35 : Int), World.cell? w' (Addr.add (Addr.add (Addr.mk g 0 none) 0) 1) = some (Value.int
 IntKind.i64 x_35) ∧ ∃ (x_36 : Option Addr) (x_37 x_38 : Nat), World.cell? w' (Addr.add (Addr.mk g_1 0 none) 3) = some (Value.slice x_36 x_37 x_38) ∧ CallsV Try.prog 37 #[Value.agg
 #[Value.slice x_32 x_33 x_34, Value.int IntKind.i64 x_35], Value.int IntKind.i64 x_23, Value.slice x_36 x_37 x_38] w' fun (v : Value) (w' : World) => ∃ (x_39 : Int) (x_40 : Bool), v = Value.tuple
 #[Value.int IntKind.i64 x_39, Value.bool x_40] ∧ bif !decide (x_31 = (0 : Int)) then K (Value.bool false) w' else bif !decide (x = x_40) then K (Value.bool false) w' else
 ∃ (x : Option Addr) (x_41 x_42 : Nat), World.cell? w' (Addr.add (Addr.add (Addr.mk g 0 none) 0) 0) = some (Value.slice x x_41 x_42) ∧ ∃ (x_43 : Int), World.cell? w' (Addr.add (Addr.add
 (Addr.mk g 0 none) 0) 1) = some (Value.int IntKind.i64 x_43) ∧ ∃ (x_44 : Option Addr) (x_45 x_46 : Nat), World.cell? w' (Addr.add (Addr.mk g_1 0 none) 3) = some (Value.slice
 x_44 x_45 x_46) ∧ CallsV Try.prog 41 #[Value.agg #[Value.slice x x_41 x_42, Value.int IntKind.i64 x_43], Value.int IntKind.i64 x_23, Value.slice x_44 x_45 x_46] w' fun (v : Value) (w' : World) => ∃ (x
 : Option Addr) (x_47 x_48 : Nat) (x_49 : Int), v = Value.agg #[Value.slice x x_47 x_48, Value.int IntKind.i64 x_49] ∧ stOK (Addr.add (Addr.mk g 0 none) 0) 0 [Value.slice x x_47 x_48, Value.int
 IntKind.i64 x_49] w' ∧ ∀ (w'_3 : World), w'_3 = setAll (Addr.add (Addr.mk g 0 none) 0) 0 [Value.slice x x_47 x_48, Value.int IntKind.i64 x_49] w' → J_1 (0 : Int) (0 : Int) (0 : Int) (0 : Int)
 w'_3 else bif decide (x_24 = (7 : Int)) then CallsV Try.prog 39 #[Value.pointer x] w fun (v : Value) (w' : World) => ∃ (x_27 : Int), v = Value.int IntKind.i64 x_27 ∧ CallsV Try.prog 26
 #[Value.pointer x] w' fun (v : Value) (w' : World) => ∃ (x x_28 : Int), v = Value.tuple #[Value.int IntKind.i64 x, Value.int IntKind.i64 x_28] ∧ bif decide (x_27 < most) then ∃ (x_29 : Option
 Addr) (x_30 x_31 : Nat), World.cell? w' (Addr.add (Addr.add (Addr.mk g 0 none) 0) 0) = some (Value.slice x_29 x_30 x_31) ∧ ∃ (x_32 : Int), World.cell? w' (Addr.add (Addr.add (Addr.mk g 0
 none) 0) 1) = some (Value.int IntKind.i64 x_32) ∧ CallsV Try.prog 42 #[Value.agg #[Value.slice x_29 x_30 x_31, Value.int IntKind.i64 x_32]] w' fun (v : Value) (w' : World) => ∃ (x_33 :
 Option Addr) (x_34 x_35 : Nat) (x_36 : Int), v = Value.agg #[Value.slice x_33 x_34 x_35, Value.int IntKind.i64 x_36] ∧ stOK (Addr.add (Addr.mk g 0 none) 0) 0 [Value.slice x_33 x_34 x_35,
 Value.int IntKind.i64 x_36] w' ∧ ∀ (w'_3 : World), w'_3 = setAll (Addr.add (Addr.mk g 0 none) 0) 0 [Value.slice x_33 x_34 x_35, Value.int IntKind.i64 x_36] w' → ∃ (x_37 : Int), World.cell? w'_3
 (Addr.add (Addr.add (Addr.mk g 0 none) 0) 1) = some (Value.int IntKind.i64 x_37) ∧ J_1 x_28 (0 : Int) x x_37 w'_3 else J_1 x_28 (5 : Int) x (0 : Int) w' else bif decide (x_24 =
 (8 : Int)) then ∃ (x_27 : Int), World.cell? w (Addr.add (Addr.mk g_1 0 none) 1) = some (Value.int IntKind.i64 x_27) ∧ CallsV Try.prog 31 #[Value.pointer x, Value.int IntKind.i64 x_27] w
 fun (v : Value) (w' : World) => ∃ (x : Int), v = Value.int IntKind.i64 x ∧ bif decide (x_23 < (0 : Int)) then J_1 x (41 : Int) (0 : Int) (0 : Int) w' else ∃ (x_28 : Option Addr) (x_29 x_30 :
 Nat), World.cell? w' (Addr.add (Addr.add (Addr.mk g 0 none) 0) 0) = some (Value.slice x_28 x_29 x_30) ∧ ∃ (x_31 : Int), World.cell? w' (Addr.add (Addr.add (Addr.mk g 0 none) 0) 1)
 = some (Value.int IntKind.i64 x_31) ∧ CallsV Try.prog 43 #[Value.agg #[Value.slice x_28 x_29 x_30, Value.int IntKind.i64 x_31], Value.int IntKind.i64 x_23] w' fun (v : Value) (w' : World) => ∃
 (x_32 : Option Addr) (x_33 x_34 : Nat) (x_35 : Int), v = Value.agg #[Value.slice x_32 x_33 x_34, Value.int IntKind.i64 x_35] ∧ stOK (Addr.add (Addr.mk g 0 none) 0) 0 [Value.slice x_32 x_33 x_34,
 Value.int IntKind.i64 x_35] w' ∧ ∀ (w'_3 : World), w'_3 = setAll (Addr.add (Addr.mk g 0 none) 0) 0 [Value.slice x_32 x_33 x_34, Value.int IntKind.i64 x_35] w' → J_1 x (0 : Int) (0 : Int) (0 :
 Int) w'_3 else bif decide (x_24 = (9 : Int)) then CallsV Try.prog 18 #[Value.pointer x] w fun (v : Value) (w' : World) => ∃ (x x_27 : Int), v = Value.tuple #[Value.int IntKind.i64 x,
 Value.int IntKind.i64 x_27] ∧ ∃ (x_28 : Option Addr) (x_29 x_30 : Nat), World.cell? w' (Addr.add (Addr.mk g 0 none) 0) = some (Value.slice x_28 x_29 x_30) ∧ ∃ (x_31 : Int), World.cell? w'
 (Addr.add (Addr.mk g 0 none) 1) = some (Value.int IntKind.i64 x_31) ∧ ∃ (x_32 : Option Addr) (x_33 x_34 : Nat), World.cell? w' (Addr.add (Addr.mk g 0 none) 2) = some
 (Value.slice x_32 x_33 x_34) ∧ CallsV Try.prog 44 #[Value.agg #[Value.slice x_28 x_29 x_30, Value.int IntKind.i64 x_31, Value.slice x_32 x_33 x_34]] w' fun (v : Value) (w' : World) => ∃ (x_35 : Option
 Addr) (x_36 x_37 : Nat) (x_38 : Int) (x_39 : Option Addr) (x_40 x_41 : Nat) (x_42 x_43 : Int), v = Value.tuple #[Value.agg #[Value.slice x_35 x_36 x_37, Value.int IntKind.i64 x_38, Value.slice x_39
 x_40 x_41], Value.int IntKind.i64 x_42, Value.int IntKind.i64 x_43] ∧ stOK (Addr.mk g 0 none) 0 [Value.slice x_35 x_36 x_37, Value.int IntKind.i64 x_38, Value.slice x_39 x_40 x_41] w' ∧ ∀ (w'_3
 : World), w'_3 = setAll (Addr.mk g 0 none) 0 [Value.slice x_35 x_36 x_37, Value.int IntKind.i64 x_38, Value.slice x_39 x_40 x_41] w' → J_1 x_27 x_43 x x_42 w'_3 else bif decide (x_24 =
 (10 : Int)) then ∃ (x_27 : Int), World.cell? w (Addr.add (Addr.mk g_1 0 none) 2) = some (Value.int IntKind.i64 x_27) ∧ CallsV Try.prog 25 #[Value.pointer x, Value.int IntKind.i64 x_27] w
 fun (v : Value) (w' : World) => ∃ (x : Int), v = Value.int IntKind.i64 x ∧ ∃ (x_28 : Option Addr) (x_29 x_30 : Nat), World.cell? w' (Addr.add (Addr.mk g 0 none) 0) = some (Value.slice
 x_28 x_29 x_30) ∧ ∃ (x_31 : Int), World.cell? w' (Addr.add (Addr.mk g 0 none) 1) = some (Value.int IntKind.i64 x_31) ∧ ∃ (x_32 : Option Addr) (x_33 x_34 : Nat), World.cell? w' (Addr.add
 (Addr.mk g 0 none) 2) = some (Value.slice x_32 x_33 x_34) ∧ ∃ (x_35 : Int), World.cell? w' (Addr.add (Addr.mk g_1 0 none) 2) = some (Value.int IntKind.i64 x_35) ∧ CallsV
 Try.prog 45 #[Value.agg #[Value.slice x_28 x_29 x_30, Value.int IntKind.i64 x_31, Value.slice x_32 x_33 x_34], Value.int IntKind.i64 x_35] w' fun (v : Value) (w' : World) => ∃ (x_36 : Option Addr)
 (x_37 x_38 : Nat) (x_39 : Int) (x_40 : Option Addr) (x_41 x_42 : Nat) (x_43 : Int), v = Value.tuple #[Value.agg #[Value.slice x_36 x_37 x_38, Value.int IntKind.i64 x_39, Value.slice x_40 x_41 x_42],
 Value.int IntKind.i64 x_43] ∧ stOK (Addr.mk g 0 none) 0 [Value.slice x_36 x_37 x_38, Value.int IntKind.i64 x_39, Value.slice x_40 x_41 x_42] w' ∧ ∀ (w'_3 : World), w'_3 = setAll (Addr.mk g 0
 none) 0 [Value.slice x_36 x_37 x_38, Value.int IntKind.i64 x_39, Value.slice x_40 x_41 x_42] w' → J_1 x x_43 (0 : Int) (0 : Int) w'_3 else bif decide (x_24 = (11 : Int)) then ∃ (x_27 :
 Int), World.cell? w (Addr.add (Addr.mk g_1 0 none) 2) = some (Value.int IntKind.i64 x_27) ∧ CallsV Try.prog 19 #[Value.pointer x, Value.int IntKind.i64 x_27] w fun (v : Value) (w' :
 World) => ∃ (x : Int), v = Value.int IntKind.i64 x ∧ ∃ (x_28 : Option Addr) (x_29 x_30 : Nat), World.cell? w' (Addr.add (Addr.mk g 0 none) 0) = some (Value.slice x_28 x_29 x_30) ∧ ∃ (x_31
 : Int), World.cell? w' (Addr.add (Addr.mk g 0 none) 1) = some (Value.int IntKind.i64 x_31) ∧ ∃ (x_32 : Option Addr) (x_33 x_34 : Nat), World.cell? w' (Addr.add (Addr.mk g 0 none)
 2) = some (Value.slice x_32 x_33 x_34) ∧ ∃ (x_35 : Int), World.cell? w' (Addr.add (Addr.mk g_1 0 none) 2) = some (Value.int IntKind.i64 x_35) ∧ CallsV Try.prog 46 #[Value.agg
 #[Value.slice x_28 x_29 x_30, Value.int IntKind.i64 x_31, Value.slice x_32 x_33 x_34], Value.int IntKind.i64 x_35] w' fun (v : Value) (w' : World) => ∃ (x_36 : Option Addr) (x_37 x_38 : Nat) (x_39 :
 Int) (x_40 : Option Addr) (x_41 x_42 : Nat) (x_43 : Int), v = Value.tuple #[Value.agg #[Value.slice x_36 x_37 x_38, Value.int IntKind.i64 x_39, Value.slice x_40 x_41 x_42], Value.int IntKind.i64 x_43]
 ∧ stOK (Addr.mk g 0 none) 0 [Value.slice x_36 x_37 x_38, Value.int IntKind.i64 x_39, Value.slice x_40 x_41 x_42] w' ∧ ∀ (w'_3 : World), w'_3 = setAll (Addr.mk g 0 none) 0 [Value.slice
 x_36 x_37 x_38, Value.int IntKind.i64 x_39, Value.slice x_40 x_41 x_42] w' → J_1 x x_43 (0 : Int) (0 : Int) w'_3 else J_1 (0 : Int) (0 : Int) (0 : Int) (0 : Int) w) ∧ bif decide (x_24 = (5 :
 Int)) then J (decide (x_24 = (5 : Int))) w else J (decide (x_24 = (6 : Int))) w) ∧ bif decide (x_24 = (1 : Int)) then J (decide (x_24 = (1 : Int))) w' else bif
 decide (x_24 = (2 : Int)) then J (decide (x_24 = (2 : Int))) w' else bif decide (x_24 = (3 : Int)) then J (decide (x_24 = (3 : Int))) w' else J (decide
 (x_24 = (4 : Int))) w' else CallsV Try.prog 23 #[] w fun (v : Value) (w' : World) => ∃ (x : Bool), v = Value.bool x ∧ K (Value.bool x) w' else CallsV Try.prog 23 #[] w fun (v : Value) (w' : World) => ∃
 (x : Bool), v = Value.bool x ∧ K (Value.bool x) w'
theorem cardindexlaw05_UndoPlays.calls (ok : Okay Try.prog) {fan : Int} {most : Int} {ops_A : Option Addr} {ops_n : Nat} {ops_c : Nat} {w : World} {K : Value → World → Prop} (h : cardindexlaw05_UndoPlays.W fan most ops_A ops_n ops_c w K) : CallsV Try.prog 8 #[.int .i64 fan, .int .i64 most, .slice ops_A ops_n ops_c] w K :=
  fnW_calls ok Try.func8 (an := (.named (.seq .auto (.seq .auto (.seq .auto (.seq .auto (.seq (.seq .auto (.block (.loop [(10, .one (.int .i64))] (.seq .auto (.join [] (.block (.seq .auto (.seq .auto (.seq .auto (.seq .auto (.seq .auto (.join [(13, .one (.int .i64)), (14, .one (.int .i64)), (15, .one (.int .i64)), (16, .one (.int .i64))] (.seq .auto (.block (.join [(70, .one .bool)] .auto (.cond .auto (.join [(121, .one .bool)] .auto .auto))))) .auto))))))) .auto))))) .auto))))))) (args := [.int .i64 fan, .int .i64 most, .slice ops_A ops_n ops_c]) (Eq.mp (by kernel_rfl) h)
end Go.Proofs.Ythfagbfllheneaa
set_option linter.unusedVariables false
set_option linter.unusedSimpArgs false
namespace Go.Proofs.Ythfagbfllheneaa
open Go Go.Sx T4
set_option maxRecDepth 10000 in
set_option maxHeartbeats 1000000 in
theorem same5_spec {T Ω : Nat → Prop} {u : World} {s : Nat} {q : Ab} {F : List (Int × Es)} {n : Nat} (h : Sto T u s q) (hF : F = foD q.D) {TA : Option Addr} {tc : Nat} (hT : TrR Ω u TA tc F) (hs : Sml F n) (hn : n ≤ 1000) (la : Int) (MA : Option Addr) (mc mn : Nat) :
    CallsV Try.prog 48 #[.pointer (some ⟨s, 0, none⟩), sV TA tc F la MA mc mn] u fun r u' => r = .bool true ∧ Ext u u' := by
  refine cardindexlaw05_same.calls okay ?_
  unfold cardindexlaw05_same.W
  intro g u1 f1
  have hI := h.inv
  have hFl := hs.len
  refine ⟨fun x v => ∃ j : Nat, x = (j : Int) ∧ j ≤ F.length ∧ Ext u1 v, fun x _ => (F.length - x).toNat, ⟨0, rfl, Nat.zero_le _, .refl _ _⟩, ?_⟩
  rintro _ v ⟨j, rfl, hj, e⟩
  have b := f1.blk.ext e
  have e0 := f1.ext.trans' e
  refine ⟨_, _, _, b.cell' rfl, brd (fun hlt => ?_) (fun hge => ⟨rfl, e0⟩)⟩
  have hjl : j < F.length := by omega
  obtain ⟨⟨r, es⟩, hjF⟩ : ∃ p, F[j]? = some p := ⟨_, List.getElem?_eq_getElem hjl⟩
  obtain ⟨ad, B, cB, hA, c0, c1, _, iE⟩ := trCell (hT.ext e0).1 hjF
  have hgf : gF (foD q.D) r = some es := gF_nd hI.ndF (k := j) (by rw [← hF]; exact hjF)
  have hup := hI.upD hgf
  have hel : es.length ≤ n := hs.es _ (List.mem_of_getElem? hjF)
  refine ⟨_, _, _, b.cell' rfl, ad, hA, ⟨by omega, by omega⟩, _, by rw [Int.toNat_natCast]; exact c0, _, _, _, by rw [Int.toNat_natCast]; exact c1, ?_⟩
  intro g2 v1 f2
  refine ⟨f2.blk.stOK (o := 0) [_, _] 0 (by simp), fun v2 hv2 => ?_⟩
  have b2 : Blk v2 g2 [.int .i64 r, .slice B es.length cB] := by rw [hv2]; exact Blk.setAll (o := 0) [.int .i64 r, .slice B es.length cB] 0 f2.blk
  have e2 : Ext v v2 := by rw [hv2]; exact f2.ext.setAll f2.ge _ _
  have ed : Ext v2 v2.drew := Fr.drew NoB v2
  have e02 := (e0.trans' e2).trans' ed
  refine ⟨fun z => Ext v2 z, ed, _, fun z e => (b2.ext e).cell rfl, _, _, _, fun z e => (b2.ext e).cell rfl, (sLen (h.ext e02) r).mono ?_⟩
  rintro _ v3 ⟨rfl, e3⟩
  have e23 := ed.trans' e3
  have e03 := e02.trans' e3
  have b3 := b2.ext e23
  refine ⟨_, rfl, e23, brn (fun h => absurd (by rw [hgf]; rfl) h) fun _ => ⟨_, b3.cell rfl, (sAfter (h.ext e03) r (key := []) (Imm.nil KB NoB v3 none) 0 true).mono ?_⟩⟩
  rintro rr v4 ⟨ht, e4⟩
  rw [hgf] at ht
  replace ht : Told v3 (aftE [] true es) rr v4 := ht
  rw [aft_first] at ht
  obtain ⟨KA, kn, kc, VA, vn, vc, ok, rfl, hgot⟩ := ht.got
  have iE2 : Imm KEn Ω v2 B es := iE.ext KEn_pos e2
  refine ⟨_, _, _, _, _, _, _, rfl, fun KA kn kc VA vn vc ok x z => ∃ i : Nat, x = (i : Int) ∧ i ≤ es.length ∧ Ext v2 z ∧ Got z es[i]? KA kn kc VA vn vc ok, fun _ _ _ _ _ _ _ x _ => (es.length - x).toNat, ⟨0, rfl, Nat.zero_le _, e23.trans' e4, hgot⟩, ?_⟩
  clear hgot
  rintro KA kn kc VA vn vc ok _ z ⟨i, rfl, hi, ez, hgot⟩
  have bz := b2.ext ez
  have e0z := (e0.trans' e2).trans' ez
  refine ⟨_, _, _, bz.cell rfl, brd (fun hlt2 => ?_) (fun hge => ?_)⟩
  · have hil : i < es.length := by omega
    obtain ⟨⟨k, p⟩, hx⟩ : ∃ p, es[i]? = some p := ⟨_, List.getElem?_eq_getElem hil⟩
    rw [hx] at hgot
    obtain ⟨rfl, rfl, rfl, iK, iV⟩ := hgot
    obtain ⟨bd, A1, d1, A2, d2, hB, k0, k1, _, _, iK', iV'⟩ := enCell (iE2.ext KEn_pos ez) hx
    refine brnb (fun h => by cases h) fun _ => ⟨_, _, _, bz.cell rfl, bd, hB, ⟨by omega, by omega⟩, _, _, _, by rw [Int.toNat_natCast]; exact k0, (SameBytes_spec iK iK').same ⟨_, rfl, brnb (fun h => absurd (decide_eq_true rfl) (by rw [h]; decide)) fun _ => ⟨_, _, _, bz.cell rfl, bd, hB, ⟨by omega, by omega⟩, _, _, _, by rw [Int.toNat_natCast]; exact k1, (SameBytes_spec iV iV').same ⟨_, rfl, brnb (fun h => absurd (decide_eq_true rfl) (by rw [h]; decide)) fun _ => ⟨_, bz.cell rfl, (sAfter (h.ext e0z) r iK kc false).mono ?_⟩⟩⟩⟩⟩
    rintro rr z2 ⟨ht, e5⟩
    rw [hgf] at ht
    replace ht : Told z (aftE k false es) rr z2 := ht
    rw [aft_next hup hx] at ht
    obtain ⟨KA', kn', kc', VA', vn', vc', ok', rfl, hgot'⟩ := ht.got
    rw [wi _ (by omega) (by omega)]
    exact ⟨_, _, _, _, _, _, _, rfl, ⟨i + 1, by omega, by omega, ez.trans' e5, hgot'⟩, by dsimp only; omega⟩
  · refine ⟨_, bz.cell rfl, (sLast (h.ext e0z) r).mono ?_⟩
    rintro rr z2 ⟨ht, e5⟩
    rw [hgf] at ht
    replace ht : Told z es.getLast? rr z2 := ht
    obtain ⟨KA', kn', kc', VA', vn', vc', ok', rfl, hgot'⟩ := ht.got
    have bz2 := bz.ext e5
    have fin : (∃ j_1 : Nat, IntKind.i64.wrap ((j : Int) + 1) = (j_1 : Int) ∧ j_1 ≤ F.length ∧ Ext u1 z2) ∧ (((F.length : Int) - IntKind.i64.wrap ((j : Int) + 1)).toNat) < ((F.length : Int) - (j : Int)).toNat := by
      rw [wi _ (by omega) (by omega)]
      exact ⟨⟨j + 1, by omega, by omega, ((e.trans' e2).trans' ez).trans' e5⟩, by omega⟩
    refine ⟨_, _, _, _, _, _, _, rfl, _, _, _, bz2.cell rfl, ?_⟩
    cases hx : es.getLast? with
    | none =>
      rw [hx] at hgot'
      obtain ⟨rfl, _⟩ := hgot'
      have hnil : es = [] := List.getLast?_eq_none_iff.1 hx
      refine brn (fun h => absurd ?_ h) fun _ => br (fun h => by cases h) fun _ => fin
      rw [hnil]; rfl
    | some p =>
      obtain ⟨k, p⟩ := p
      rw [hx] at hgot'
      obtain ⟨rfl, rfl, rfl, iK, iV⟩ := hgot'
      have hpos : 0 < es.length := by
        cases es with
        | nil => cases hx
        | cons a r => simp
      have hx2 : es[es.length - 1]? = some (k, p) := by rw [← List.getLast?_eq_getElem?]; exact hx
      obtain ⟨bd, A1, d1, A2, d2, hB, k0, k1, _, _, iK', iV'⟩ := enCell ((iE2.ext KEn_pos ez).ext KEn_pos e5) hx2
      have hw : IntKind.i64.wrap ((es.length : Int) - 1) = ((es.length - 1 : Nat) : Int) := by rw [wi _ (by omega) (by omega)]; omega
      refine brn (fun h => absurd (by rw [decide_eq_true (show (0 : Int) < (es.length : Int) by omega)]) h) fun _ => br (fun _ => ⟨_, _, _, bz2.cell rfl, _, _, _, bz2.cell rfl, bd, hB, ?_⟩) fun h => by cases h
      rw [hw, Int.toNat_natCast]
      exact ⟨⟨by omega, by omega⟩, _, _, _, k0, (SameBytes_spec iK iK').same ⟨_, rfl, brnb (fun h => absurd (decide_eq_true rfl) (by rw [h]; decide)) fun _ => fin⟩⟩
/-! ## the state -/
def msR (ms : List (Ar × List Tr)) : List (List (Int × Es) × Int) := ms.map fun p => (foD p.2, (p.1.last : Int))
theorem msR_len (ms : List (Ar × List Tr)) : (msR ms).length = ms.length := by simp [msR]
theorem msR_take (ms : List (Ar × List Tr)) (k : Nat) : msR (ms.take k) = (msR ms).take k := by simp [msR, List.map_take]
abbrev Oq5 (T : Nat → Prop) (gt : Nat) : Nat → Prop := fun k => T k ∨ k = gt
structure St5 (w u : World) (s gt : Nat) (T : Nat → Prop) (A : Ar) (D : List Tr) (ms : List (Ar × List Tr)) (TA : Option Addr) (tc : Nat) (F : List (Int × Es)) (la : Int) (MA : Option Addr) (mc : Nat) (Ms : List (List (Int × Es) × Int)) (n : Nat) : Prop where
  sto : Sto T u s ⟨A, D, ms⟩
  e : Ext w u
  new : ∀ k, T k → w.heap.size ≤ k
  bt : Blk u gt [.slice TA F.length tc, .int .i64 la, .slice MA Ms.length mc]
  gtT : ¬ T gt
  gtw : w.heap.size ≤ gt
  tr : StR (Oq5 T gt) u TA tc F MA mc Ms
  sml : Sml F n
  last : A.last ≤ n
  msm : ∀ p ∈ ms, Sml (foD p.2) n ∧ p.1.last ≤ n
section
variable {w u : World} {s gt : Nat} {T : Nat → Prop} {A : Ar} {D : List Tr} {ms : List (Ar × List Tr)} {TA : Option Addr} {tc : Nat} {F : List (Int × Es)} {la : Int} {MA : Option Addr} {mc : Nat} {Ms : List (List (Int × Es) × Int)} {n : Nat}
theorem St5.lt (h : St5 w u s gt T A D ms TA tc F la MA mc Ms n) : ∀ k, Oq5 T gt k → k < u.heap.size := by
  rintro k (hk | rfl)
  · exact h.sto.lt k hk
  · exact h.bt.lt
theorem St5.ext (h : St5 w u s gt T A D ms TA tc F la MA mc Ms n) {u' : World} (e : Ext u u') : St5 w u' s gt T A D ms TA tc F la MA mc Ms n :=
  ⟨h.sto.ext e, h.e.trans' e, h.new, h.bt.ext e, h.gtT, h.gtw, h.tr.ext e, h.sml, h.last, h.msm⟩
theorem St5.mono (h : St5 w u s gt T A D ms TA tc F la MA mc Ms n) {m : Nat} (hm : n ≤ m) : St5 w u s gt T A D ms TA tc F la MA mc Ms m :=
  ⟨h.sto, h.e, h.new, h.bt, h.gtT, h.gtw, h.tr, h.sml.mono hm, Nat.le_trans h.last hm, fun p hp => ⟨(h.msm p hp).1.mono hm, Nat.le_trans (h.msm p hp).2 hm⟩⟩
theorem St5.chg (h : St5 w u s gt T A D ms TA tc F la MA mc Ms n) {u' : World} {T' : Nat → Prop} {A' : Ar} {D' : List Tr} {ms' : List (Ar × List Tr)} (h' : Sto T' u' s ⟨A', D', ms'⟩) (c : Tch T u T' u') (h3 : A'.last ≤ n) (h4 : ∀ p ∈ ms', Sml (foD p.2) n ∧ p.1.last ≤ n) : St5 w u' s gt T' A' D' ms' TA tc F la MA mc Ms n := by
  obtain ⟨e', n'⟩ := c.keepExt h.e h.new
  obtain ⟨b', g'⟩ := c.blk h.bt h.gtT
  have st : Step (Oq5 T gt) u (Oq5 T' gt) u' := c.fr.step (fun _ _ h => .inl h) fun k hk h => h.elim (fun h => .inl ((c.sub k h).resolve_right (by omega))) .inr
  exact ⟨h', e', n', b', g', h.gtw, h.tr.keep st, h.sml, h3, h4⟩
theorem St5.setT (h : St5 w u s gt T A D ms TA tc F la MA mc Ms n) {TA' : Option Addr} {tc' : Nat} {F' : List (Int × Es)} {la' : Int} (hT : TrR (Oq5 T gt) u TA' tc' F') (hs : Sml F' n) : stOK ((⟨gt, 0, none⟩ : Addr).add 0) 0 [.slice TA' F'.length tc', .int .i64 la'] u ∧ ∀ u', u' = setAll ((⟨gt, 0, none⟩ : Addr).add 0) 0 [.slice TA' F'.length tc', .int .i64 la'] u → St5 w u' s gt T A D ms TA' tc' F' la' MA mc Ms n ∧ Fr (fun k => k = gt) u u' := by
  rw [add_new]
  refine ⟨h.bt.stOK (o := 0) [_, _] 0 (by simp), fun u' hu => ?_⟩
  have b' : Blk u' gt [.slice TA' F'.length tc', .int .i64 la', .slice MA Ms.length mc] := by rw [hu]; exact Blk.setAll (o := 0) [.slice TA' F'.length tc', .int .i64 la'] 0 h.bt
  have f : Fr (fun k => k = gt) u u' := by rw [hu]; exact Fr.setAll _ _ _
  have st : Step (Oq5 T gt) u (Oq5 T gt) u' := f.step (fun k _ e => .inr e) (fun _ _ h => h)
  exact ⟨⟨h.sto.frame f fun k _ e ht => h.gtT (by have e : k = gt := e; exact e ▸ ht), h.e.trans f (fun _ _ h => h) (fun k hk e => by have e : k = gt := e; have := h.gtw; omega), h.new, b', h.gtT, h.gtw, ⟨hT.keep st, h.tr.m.keep KTs_pos st, h.tr.c⟩, hs, h.last, h.msm⟩, f⟩
theorem St5.setS (h : St5 w u s gt T A D ms TA tc F la MA mc Ms n) {TA' : Option Addr} {tc' : Nat} {F' : List (Int × Es)} {la' : Int} {MA' : Option Addr} {mc' : Nat} {Ms' : List (List (Int × Es) × Int)} (hT : StR (Oq5 T gt) u TA' tc' F' MA' mc' Ms') (hs : Sml F' n) : stOK ⟨gt, 0, none⟩ 0 [.slice TA' F'.length tc', .int .i64 la', .slice MA' Ms'.length mc'] u ∧ ∀ u', u' = setAll ⟨gt, 0, none⟩ 0 [.slice TA' F'.length tc', .int .i64 la', .slice MA' Ms'.length mc'] u → St5 w u' s gt T A D ms TA' tc' F' la' MA' mc' Ms' n ∧ Fr (fun k => k = gt) u u' := by
  refine ⟨h.bt.stOK (o := 0) [_, _, _] 0 (by simp), fun u' hu => ?_⟩
  have b' : Blk u' gt [.slice TA' F'.length tc', .int .i64 la', .slice MA' Ms'.length mc'] := by rw [hu]; exact Blk.setAll (o := 0) [.slice TA' F'.length tc', .int .i64 la', .slice MA' Ms'.length mc'] 0 h.bt
  have f : Fr (fun k => k = gt) u u' := by rw [hu]; exact Fr.setAll _ _ _
  have st : Step (Oq5 T gt) u (Oq5 T gt) u' := f.step (fun k _ e => .inr e) (fun _ _ h => h)
  exact ⟨⟨h.sto.frame f fun k _ e ht => h.gtT (by have e : k = gt := e; exact e ▸ ht), h.e.trans f (fun _ _ h => h) (fun k hk e => by have e : k = gt := e; have := h.gtw; omega), h.new, b', h.gtT, h.gtw, hT.keep st, hs, h.last, h.msm⟩, f⟩
end
end Go.Proofs.Ythfagbfllheneaa
set_option linter.unusedVariables false
set_option linter.unusedSimpArgs false
namespace Go.Proofs.Ythfagbfllheneaa
open Go Go.Sx T4
theorem upF_set {id : Int} {es : Es} : ∀ {F : List (Int × Es)} {k : Nat} {es0 : Es}, (F.map fun p => p.1).Nodup → F[k]? = some (id, es0) → upF F id es = F.set k (id, es)
  | [], k, es0, _, h => by simp at h
  | p :: F, 0, es0, hn, h => by
    simp at h
    subst h
    rw [List.map_cons, List.nodup_cons] at hn
    have hx : upF F id es = F := upF_out fun q hq e => hn.1 (List.mem_map.2 ⟨q, hq, e⟩)
    show (if (id, es0).1 = id then ((id, es0).1, es) else (id, es0)) :: upF F id es = _
    rw [if_pos rfl, hx]; rfl
  | p :: F, k + 1, es0, hn, h => by
    rw [List.map_cons, List.nodup_cons] at hn
    have h : F[k]? = some (id, es0) := h
    have hne : p.1 ≠ id := fun e => hn.1 (List.mem_map.2 ⟨(id, es0), List.mem_of_getElem? h, e.symm⟩)
    show (if p.1 = id then (p.1, es) else p) :: upF F id es = _
    rw [if_neg hne, upF_set hn.2 h]; rfl
theorem gF_split {D D1 D2 : List Tr} {d : Tr} (h : (foD D |>.map fun p => p.1).Nodup) (hD : D = D1 ++ d :: D2) : gF (foD D) d.r = some d.es := by
  subst hD
  exact gF_nd h (k := D1.length) (by simp [foD, fo])
section
variable {A A' : Ar} {D D' : List Tr} {id n e : Int} {key val : Key} {was : Bool}
theorem PutRel.cases (r : PutRel A D id key val A' D' was e) (hI : Inv A D) : (gF (foD D) id = none ∧ A' = A ∧ D' = D ∧ was = false ∧ e = 41) ∨ ∃ es, gF (foD D) id = some es ∧ ((e = 5 ∧ A' = A ∧ D' = D ∧ (es.length ≤ 1000 → A.most < A.nodes + 16)) ∨ (e = 0 ∧ was = inE key es ∧ foD D' = upF (foD D) id (insE key val es))) := by
  rcases r.rel with h | ⟨D1, d, D2, d', full, hD, hr, hD', hr', rfl, rfl, hfu, hno⟩
  · exact .inl h
  · have hg := gF_split hI.ndF hD
    rw [hr] at hg
    refine .inr ⟨d.es, hg, ?_⟩
    cases full with
    | true =>
      obtain ⟨h1, h2, _, h4⟩ := hfu rfl
      obtain ⟨ho, hh⟩ := (show Inv A (D1 ++ d :: D2) from hD ▸ hI).one
      refine .inl ⟨rfl, h1, by rw [hD', hD, h2], fun hle => ?_⟩
      have : d.h ≤ 14 := by
        refine Nat.le_of_not_lt fun hlt => ?_
        have h5 := ho.least (by omega)
        have h7 : 2 ^ (dp A d.r - 1) ≤ (A.fan / 2) ^ (dp A d.r - 1) := Nat.pow_le_pow_left (by have := hI.f1; omega) _
        have h8 : 2 ^ 14 ≤ 2 ^ (dp A d.r - 1) := Nat.pow_le_pow_right (by decide) (by omega)
        omega
      omega
    | false =>
      refine .inr ⟨rfl, by simp, ?_⟩
      rw [hD', hD, ← hno rfl, ← hr]
      exact fo_up (hD ▸ hI.nd) hr'
theorem DelRel.cases (r : DelRel A D id key A' D' was e) (hI : Inv A D) : (gF (foD D) id = none ∧ A' = A ∧ D' = D ∧ was = false ∧ e = 41) ∨ ∃ es, gF (foD D) id = some es ∧ e = 0 ∧ was = inE key es ∧ foD D' = upF (foD D) id (delE key es) := by
  rcases r.rel with h | ⟨D1, d, D2, d', hD, hr, hD', hr', rfl, rfl, hno⟩
  · exact .inl h
  · have hg := gF_split hI.ndF hD
    rw [hr] at hg
    refine .inr ⟨d.es, hg, rfl, rfl, ?_⟩
    rw [hD', hD, ← hno, ← hr]
    exact fo_up (hD ▸ hI.nd) hr'
theorem DropRel.cases (r : DropRel A D id A' D' e) (hI : Inv A D) {k : Nat} {es : Es} (hk : (foD D)[k]? = some (id, es)) : e = 0 ∧ ∃ F1 F2, foD D = F1 ++ (id, es) :: F2 ∧ F1.length = k ∧ foD D' = F1 ++ F2 := by
  have hg := gF_nd hI.ndF hk
  rcases r.rel with ⟨h, _⟩ | ⟨D1, d, D2, hD, hr, hD', he⟩
  · rw [h] at hg; cases hg
  · refine ⟨he, foD D1, foD D2, ?_, ?_, by rw [hD']; simp [foD]⟩
    · have hg2 := gF_split hI.ndF hD
      rw [hr, hg] at hg2
      rw [hD]; simp [foD, fo, hr, ← Option.some.inj hg2]
    · have hn := hI.ndF
      have hlt := (List.getElem?_eq_some_iff.1 hk).1
      have h1 : (foD D)[D1.length]? = some (id, d.es) := by rw [hD]; simp [foD, fo, hr]
      have hlt1 := (List.getElem?_eq_some_iff.1 h1).1
      rw [show (foD D1).length = D1.length by simp [foD]]
      have a := (List.getElem?_eq_some_iff.1 h1).2
      have b := (List.getElem?_eq_some_iff.1 hk).2
      have := (List.getElem_inj (xs := (foD D).map fun p => p.1) (h₀ := by rw [List.length_map]; exact hlt1) (h₁ := by rw [List.length_map]; exact hlt) hn).1 (by simp only [List.getElem_map, a, b])
      exact this
end
theorem aNew_any (u : World) (fan most : Int) : CallsV Try.prog 15 #[.int .i64 fan, .int .i64 most] u fun r w' => (r = .tuple #[.pointer none, .int .i64 2] ∧ w' = u) ∨ ∃ f m : Nat, fan = (f : Int) ∧ most = (m : Int) ∧ 4 ≤ f ∧ f ≤ 64 ∧ 1 ≤ m ∧ m ≤ 65536 ∧ ∃ s T, r = .tuple #[.pointer (some ⟨s, 0, none⟩), .int .i64 0] ∧ Sto T w' s ⟨A0 f m, [], []⟩ ∧ Ext u w' ∧ ∀ k, T k → u.heap.size ≤ k := by
  by_cases h : fan < 4 ∨ 64 < fan ∨ most < 1 ∨ 65536 < most
  · exact (aNew_bad u fan most h).mono fun r w' h => .inl h
  · obtain ⟨f, rfl⟩ : ∃ f : Nat, fan = (f : Int) := ⟨fan.toNat, by omega⟩
    obtain ⟨m, rfl⟩ : ∃ m : Nat, most = (m : Int) := ⟨most.toNat, by omega⟩
    exact (aNew u f m (by omega) (by omega) (by omega) (by omega)).mono fun r w' h => .inr ⟨f, m, rfl, rfl, by omega, by omega, by omega, by omega, h⟩
def Rest (w u : World) (s gt m n : Nat) : Prop := ∃ T A D ms TA tc MA mc, St5 w u s gt T A D ms TA tc (foD D) (A.last : Int) MA mc (msR ms) n ∧ A.most = m
set_option maxRecDepth 100000 in
set_option maxHeartbeats 2000000 in
theorem UndoPlays_spec {Ωo : Nat → Prop} {w : World} (fan most : Int) {OA : Option Addr} {oc : Nat} {ops : List Op5} (ho : Imm KOp Ωo w OA ops) :
    CallsV Try.prog 8 #[.int .i64 fan, .int .i64 most, .slice OA ops.length oc] w fun r w' => r = .bool true ∧ Ext w w' := by
  refine cardindexlaw05_UndoPlays.calls okay ?_
  unfold cardindexlaw05_UndoPlays.W
  have aw : ∀ {u : World}, Ext w u → CallsV Try.prog 23 #[] u fun v w' => ∃ x, v = .bool x ∧ ((fun r w' => r = Value.bool true ∧ Ext w w') (.bool x) w') := fun e => (awake_spec _).mono fun v w' ⟨h1, h2⟩ => ⟨true, h1, rfl, e.trans' h2⟩
  refine (aNew_any w fan most).mono ?_
  rintro _ w1 (⟨rfl, rfl⟩ | ⟨f, m, rfl, rfl, hf1, hf2, hm1, hm2, s, T, rfl, h1, e1, hR⟩)
  · exact ⟨_, _, rfl, brn (fun _ => br (fun _ => aw (.refl _ _)) fun h => by cases h) fun h => by cases h⟩
  refine ⟨_, _, rfl, brn (fun h => absurd rfl h) fun _ => ?_⟩
  intro gt w2 f2
  have hgt : ¬ T gt := fun h => by have := h1.lt gt h; have := f2.ge; omega
  have S0 : Rest w w2 s gt m 0 := ⟨T, A0 f m, [], [], none, 0, none, 0, ⟨h1.ext f2.ext, e1.trans' f2.ext, hR, f2.blk, hgt, Nat.le_trans e1.size f2.ge, ⟨⟨Imm.nil _ _ _ _, Nat.le_refl _⟩, Imm.nil _ _ _ _, Nat.le_refl _⟩, ⟨Nat.le_refl _, fun p h => (by cases h), fun p h => (by cases h)⟩, Nat.le_refl _, fun p h => (by cases h)⟩, rfl⟩
  clear hR h1 hgt f2 e1
  refine ⟨fun x u => ∃ j : Nat, x = (j : Int) ∧ j ≤ 80 ∧ Rest w u s gt m j, fun x _ => (80 - x).toNat, ⟨0, rfl, by omega, S0⟩, ?_⟩
  clear S0
  rintro _ u ⟨j, rfl, hj, T, A, D, ms, TA, tc, MA, mc, S, hmost⟩
  refine brd (fun hlt => brd (fun hlt8 => ?_) (fun _ => aw S.e)) (fun _ => aw S.e)
  have hjl : j < ops.length := by omega
  have hS := S.mono (Nat.le_succ j)
  refine ⟨fun u' => Rest w u' s gt m (j + 1), ?_, ?_⟩
  · intro u' hR
    rw [wi _ (by omega) (by omega)]
    exact ⟨⟨j + 1, by omega, by omega, hR⟩, by dsimp only; omega⟩
  obtain ⟨ad, KA, kkc, VA, vvc, hOA, C⟩ := opC ho hjl
  generalize ops[j] = op at C
  have tn : ((j : Nat) : Int).toNat = j := Int.toNat_natCast j
  have C1 := C.ext S.e
  rw [tn]
  refine ⟨ad, hOA, ⟨by omega, by omega⟩, _, C1.c0, _, C1.c1, _, C1.c2, _, _, _, C1.c3, _, _, _, C1.c4, ?_⟩
  intro go u1 f1
  refine ⟨f1.blk.stOK (o := 0) [_, _, _, _, _] 0 (by simp), fun u2 hu2 => ?_⟩
  have bo : Blk u2 go [.int .i64 op.kind, .int .i64 op.id, .int .i64 op.n, .slice KA op.key.length kkc, .slice VA op.val.length vvc] := by rw [hu2]; exact Blk.setAll (o := 0) [.int .i64 op.kind, .int .i64 op.id, .int .i64 op.n, .slice KA op.key.length kkc, .slice VA op.val.length vvc] 0 f1.blk
  have e2 : Ext u u2 := by rw [hu2]; exact f1.ext.setAll f1.ge _ _
  have hS2 := hS.ext e2
  have hgoT : ¬ T go := fun h => by have := S.sto.lt go h; have := f1.ge; omega
  have hgogt : go ≠ gt := fun e => by have := S.bt.lt; have := f1.ge; omega
  refine ⟨_, _, _, bo.cell rfl, brd (fun _ => ⟨T, A, D, ms, TA, tc, MA, mc, hS2, hmost⟩) fun hk1 => ⟨_, _, _, bo.cell rfl, brd (fun _ => ⟨T, A, D, ms, TA, tc, MA, mc, hS2, hmost⟩) fun hv1 => ?_⟩⟩
  refine ⟨_, _, _, hS2.bt.cell' rfl, _, hS2.bt.cell' rfl, _, bo.cell rfl, (Find_spec hS2.tr.t.1 (by have := hS2.sml.len; omega) _ op.id).mono ?_⟩
  rintro _ u4 ⟨i, rfl, hf, e4⟩
  have hS4 := hS2.ext e4
  have bo4 := bo.ext e4
  clear hS2 bo
  have hI : Inv A D := hS4.sto.inv
  have hFl := S.sml.len
  have hms : ms.length ≤ 100 := hS4.sto.cnt
  have hla := S.last
  have keepO : ∀ {u5 u6 : World} {T5 T6 : Nat → Prop}, ¬ T5 go → Blk u5 go [.int .i64 op.kind, .int .i64 op.id, .int .i64 op.n, .slice KA op.key.length kkc, .slice VA op.val.length vvc] → Tch T5 u5 T6 u6 → Blk u6 go [.int .i64 op.kind, .int .i64 op.id, .int .i64 op.n, .slice KA op.key.length kkc, .slice VA op.val.length vvc] := fun hg hb c => (c.blk hb hg).1
  have C4 : OpC u4 op (ad.add (j * 5)) KA kkc VA vvc := C.ext hS4.e
  refine ⟨_, rfl, fun x y a b u => x = y ∧ a = b ∧ Rest w u s gt m (j + 1), ?_, _, bo4.cell rfl, fun _ u => u = u4, ?_, ?_⟩
  · rintro x _ a _ u5 ⟨rfl, rfl, T, A, D, ms, TA, tc, MA, mc, S, hmost⟩
    have ed : Ext u5 u5.drew := Fr.drew NoB u5
    have Sd := S.ext ed
    refine brn (fun h => absurd rfl h) fun _ => brn (fun h => absurd rfl h) fun _ => (sCheck Sd.sto).mono ?_
    rintro _ u6 ⟨rfl, e6⟩
    have S6 := Sd.ext e6
    have hml := msR_len ms
    refine ⟨_, rfl, brn (fun h => absurd rfl h) fun _ => ⟨fun v => Ext u6 v, .refl _ _, _, _, _, fun v e => (S6.bt.ext e).cell rfl, (sMarks S6.sto).same ⟨_, rfl, .refl _ _, brn (fun h => absurd (by rw [hml]) h) fun _ => ⟨fun v => Ext u6 v, .refl _ _, _, _, _, fun v e => (S6.bt.ext e).cell rfl, _, fun v e => (S6.bt.ext e).cell rfl, _, _, _, fun v e => (S6.bt.ext e).cell rfl, (sTrees S6.sto).mono ?_⟩⟩⟩⟩
    rintro _ u7 ⟨IA, ic, rfl, oI, e7, _⟩
    have S7 := S6.ext e7
    have hDl : D.length ≤ 1000 := (S6.sto.inv).cnt
    have hfl : (foD D).length = D.length := by simp [foD]
    have hid : idsD D = (foD D).map fun p => p.1 := by simp [idsD, foD, fo]
    refine ⟨_, _, _, rfl, e7, e7, (rIds S7.tr.t (by omega) _).mono ?_⟩
    rintro _ u8 ⟨IB, ib, rfl, oB, e8⟩
    have hmap : (foD D).length = ((foD D).map fun p => p.1).length := by simp
    have hcall := SameInts_spec (c := ic) (d := ib) ((oI.imm KI_pos).ext KI_pos e8) (oB.imm KI_pos) (by rw [idsD_len]; show D.length ≤ _; omega)
    rw [← hmap] at hcall
    refine ⟨_, _, _, rfl, e7.trans' e8, hcall.mono ?_⟩
    rintro _ u9 ⟨rfl, e9⟩
    have e69 := (e7.trans' e8).trans' e9
    have S9 := S6.ext e69
    refine ⟨_, rfl, e69, brnb (fun h => absurd (show idsD D = _ from hid) (of_decide_eq_false h)) fun _ => ⟨fun v => Ext u9 v, .refl _ _, _, _, _, fun v e => (S9.bt.ext e).cell rfl, _, fun v e => (S9.bt.ext e).cell rfl, _, _, _, fun v e => (S9.bt.ext e).cell rfl, (same5_spec S9.sto rfl S9.tr.t S9.sml (by omega) _ _ _ _).mono ?_⟩⟩
    rintro _ u10 ⟨rfl, e10⟩
    exact ⟨_, rfl, e69.trans' e10, brnb (fun h => by cases h) fun _ => ⟨T, A, D, ms, TA, tc, MA, mc, S9.ext e10, hmost⟩⟩
  · rintro b u0 hu0
    obtain rfl : u4 = u0 := hu0.symm
    refine br (fun _ => ?_) (fun _ => ?_)
    · -- Put
      refine ⟨_, bo4.cell rfl, _, _, _, bo4.cell rfl, _, _, _, bo4.cell rfl, ?_⟩
      obtain ⟨A', D', was, e, rel, hP⟩ := aPut (A := A) (D := D) hI op.id (key := op.key) (val := op.val) (by omega) (by omega)
      refine (hP hS4.sto C4.k C4.v kkc vvc).mono ?_
      rintro _ u6 ⟨rfl, T6, h6, c6⟩
      have hS6 := hS4.chg h6 c6 (by rw [rel.same.last]; exact hS4.last) hS4.msm
      have bo6 := keepO hgoT bo4 c6
      have hm6 : A'.most = m := rel.same.most.trans hmost
      have hl6 : A'.last = A.last := rel.same.last
      refine ⟨_, _, rfl, ?_⟩
      rcases hf.cases with ⟨rfl, hgn, _⟩ | ⟨k, es, rfl, hFk, hgs⟩
      · rcases rel.cases hI with ⟨_, rfl, rfl, rfl, rfl⟩ | ⟨es, hgs, _⟩
        · exact brd (fun _ => ⟨rfl, rfl, T6, _, _, ms, TA, tc, MA, mc, hS6, hmost⟩) fun h => absurd (by decide) h
        · rw [hgn] at hgs; cases hgs
      · rcases rel.cases hI with ⟨hgn, _⟩ | ⟨es', hgs', hc⟩
        · rw [hgn] at hgs; cases hgs
        obtain rfl : es = es' := by rw [hgs] at hgs'; exact Option.some.inj hgs'
        refine brd (fun h => by omega) fun _ => ?_
        rcases hc with ⟨rfl, rfl, rfl, hfull⟩ | ⟨rfl, rfl, hfo⟩
        · refine brd (fun h => by cases h) fun _ => brn (fun h => absurd rfl h) fun _ => (sNodes h6).mono ?_
          rintro _ u7 ⟨rfl, e7⟩
          have hno : A'.nodes ≤ A'.most := hI.nodes
          have hfull := hfull (by have := S.sml.es _ (List.mem_of_getElem? hFk); have this : es.length ≤ j := this; omega)
          have m65 : A'.most ≤ 65536 := hI.m
          refine ⟨_, rfl, brd (fun hle => absurd hle ?_) fun _ => ⟨rfl, rfl, T6, _, _, ms, TA, tc, MA, mc, hS6.ext e7, hmost⟩⟩
          rw [wi _ (by show -9223372036854775808 ≤ ((A'.nodes : Nat) : Int) + 16; omega) (by show ((A'.nodes : Nat) : Int) + 16 ≤ 9223372036854775807; omega)]
          show ¬ ((A'.nodes : Nat) : Int) + 16 ≤ (m : Int)
          omega
        · have hme := List.mem_of_getElem? hFk
          have hks : ∀ p ∈ es, p.1.length ≤ 1048576 := S.sml.keys _ hme
          have hel : es.length ≤ j := S.sml.es _ hme
          have C6 : OpC u6 op (ad.add (j * 5)) KA kkc VA vvc := C.ext hS6.e
          refine brd (fun _ => ⟨_, _, _, hS6.bt.cell' rfl, _, hS6.bt.cell' rfl, _, _, _, bo6.cell rfl, (Place_spec hS6.tr.t.1 hFk (by omega) _ C6.k kkc hks).mono ?_⟩) fun h => absurd rfl h
          rintro _ u7 ⟨rfl, e7⟩
          have hS7 := hS6.ext e7
          have bo7 := bo6.ext e7
          have C7 := C6.ext e7
          have hsl := insE_sml (key := op.key) (val := op.val) (show op.key.length ≤ 1048576 by omega) hel hks
          refine ⟨_, _, rfl, brn (fun h => absurd (inE_has _ _) h) fun _ => ⟨_, _, _, hS7.bt.cell' rfl, _, hS7.bt.cell' rfl, _, _, _, bo7.cell rfl, _, _, _, bo7.cell rfl, (Put_specR hS7.tr.t hS7.lt (by omega) hFk (by omega) _ C7.k C7.v kkc vvc (by omega) (by omega) hks).mono ?_⟩⟩
          rintro _ u8 ⟨TA', tc', rfl, hT, e8⟩
          have hS8 := hS7.ext e8
          obtain ⟨q1, q2⟩ := hS8.setT (la' := (A.last : Int)) hT (hS8.sml.set _ _ (by omega) hsl.2)
          refine ⟨_, _, _, _, rfl, q1, fun u9 hu9 => ?_⟩
          obtain ⟨hS9, _⟩ := q2 u9 hu9
          rw [← upF_set hI.ndF hFk, ← hfo, ← hl6] at hS9
          exact ⟨rfl, rfl, T6, A', D', ms, TA', tc', MA, mc, hS9, hm6⟩
    · refine ⟨fun _ u => u = u4, ?_, ?_⟩
      rotate_left
      · exact brd (fun _ => rfl) fun _ => rfl
      rintro b u0 hu0
      obtain rfl : u4 = u0 := hu0.symm
      refine br (fun _ => ?_) (fun _ => ?_)
      · -- Delete
        refine ⟨_, bo4.cell rfl, _, _, _, bo4.cell rfl, ?_⟩
        obtain ⟨A', D', was, e, rel, hP⟩ := aDel (A := A) (D := D) hI op.id op.key
        refine (hP hS4.sto C4.k kkc).mono ?_
        rintro _ u6 ⟨rfl, T6, h6, c6⟩
        have hS6 := hS4.chg h6 c6 (by rw [rel.same.last]; exact hS4.last) hS4.msm
        have bo6 := keepO hgoT bo4 c6
        have hm6 : A'.most = m := rel.same.most.trans hmost
        have hl6 : A'.last = A.last := rel.same.last
        refine ⟨_, _, rfl, ?_⟩
        rcases hf.cases with ⟨rfl, hgn, _⟩ | ⟨k, es, rfl, hFk, hgs⟩
        · rcases rel.cases hI with ⟨_, rfl, rfl, rfl, rfl⟩ | ⟨es, hgs, _⟩
          · exact brd (fun _ => ⟨rfl, rfl, T6, _, _, ms, TA, tc, MA, mc, hS6, hmost⟩) fun h => absurd (by decide) h
          · rw [hgn] at hgs; cases hgs
        · rcases rel.cases hI with ⟨hgn, _⟩ | ⟨es', hgs', rfl, rfl, hfo⟩
          · rw [hgn] at hgs; cases hgs
          obtain rfl : es = es' := by rw [hgs] at hgs'; exact Option.some.inj hgs'
          have hme := List.mem_of_getElem? hFk
          have hks : ∀ p ∈ es, p.1.length ≤ 1048576 := S.sml.keys _ hme
          have hel : es.length ≤ j := S.sml.es _ hme
          have C6 : OpC u6 op (ad.add (j * 5)) KA kkc VA vvc := C.ext hS6.e
          refine brd (fun h => by omega) fun _ => ⟨_, _, _, hS6.bt.cell' rfl, _, hS6.bt.cell' rfl, _, _, _, bo6.cell rfl, (Place_spec hS6.tr.t.1 hFk (by omega) _ C6.k kkc hks).mono ?_⟩
          rintro _ u7 ⟨rfl, e7⟩
          have hS7 := hS6.ext e7
          have bo7 := bo6.ext e7
          have C7 := C6.ext e7
          have hsl := delE_sml (key := op.key) hel hks
          refine ⟨_, _, rfl, brn (fun h => absurd rfl h) fun _ => brn (fun h => absurd (inE_has _ _) h) fun _ => ⟨_, _, _, hS7.bt.cell' rfl, _, hS7.bt.cell' rfl, _, _, _, bo7.cell rfl, (Delete_specR hS7.tr.t hS7.lt (by omega) hFk (by omega) _ C7.k kkc hks).mono ?_⟩⟩
          rintro _ u8 ⟨TA', tc', rfl, hT, e8⟩
          have hS8 := hS7.ext e8
          obtain ⟨q1, q2⟩ := hS8.setT (la' := (A.last : Int)) hT (hS8.sml.set _ _ (by omega) hsl.2)
          refine ⟨_, _, _, _, rfl, q1, fun u9 hu9 => ?_⟩
          obtain ⟨hS9, _⟩ := q2 u9 hu9
          rw [← upF_set hI.ndF hFk, ← hfo, ← hl6] at hS9
          exact ⟨rfl, rfl, T6, A', D', ms, TA', tc', MA, mc, hS9, hm6⟩
      · refine brd (fun _ => ?_) fun _ => brd (fun _ => ?_) fun _ => brd (fun _ => ?_) fun _ => brd (fun _ => ?_) fun _ => brd (fun _ => ?_) fun _ => ⟨rfl, rfl, T, A, D, ms, TA, tc, MA, mc, hS4, hmost⟩
        · -- Create
          refine (sNodes hS4.sto).mono ?_
          rintro _ u5 ⟨rfl, e5⟩
          have hS5 := hS4.ext e5
          have hDl : D.length ≤ j := by have := hFl; rw [List.length_map] at this; exact this
          obtain ⟨A', D', n, e, rel, hP⟩ := aCreate (A := A) (D := D) hI (by omega)
          refine ⟨_, rfl, (hP hS5.sto).mono ?_⟩
          rintro _ u6 ⟨rfl, T6, h6, c6⟩
          refine ⟨_, _, rfl, ?_⟩
          rcases rel.rel with ⟨hroom, _, hl', rfl, rfl, i', rfl⟩ | ⟨hfull, rfl, rfl, rfl, rfl⟩
          · have hS6 := hS5.chg h6 c6 (by rw [hl']; omega) hS4.msm
            refine brd (fun _ => ⟨_, _, _, hS6.bt.cell' rfl, _, hS6.bt.cell' rfl, (Create_specR hS6.tr.t hS6.lt (by omega) A.last (by omega)).mono ?_⟩) fun h => absurd (by show ((A.nodes : Nat) : Int) < m; omega) h
            rintro _ u7 ⟨TA', tc', rfl, hT, e7⟩
            have hS7 := hS6.ext e7
            obtain ⟨q1, q2⟩ := hS7.setT (la' := ((A.last + 1 : Nat) : Int)) hT ⟨by rw [List.length_append]; show (foD D).length + 1 ≤ j + 1; omega, fun p hp => by
              rcases List.mem_append.1 hp with hp | hp
              · exact hS7.sml.es p hp
              · simp at hp; subst hp; exact Nat.zero_le _, fun p hp => by
              rcases List.mem_append.1 hp with hp | hp
              · exact hS7.sml.keys p hp
              · simp at hp; subst hp; intro q hq; cases hq⟩
            refine ⟨_, _, _, _, rfl, q1, fun u8 hu8 => ?_⟩
            obtain ⟨hS8, _⟩ := q2 u8 hu8
            refine ⟨_, hS8.bt.cell' rfl, rfl, rfl, T6, A', D ++ [⟨((A.last + 1 : Nat) : Int), i', 1, [], [i']⟩], ms, TA', tc', MA, mc, ?_, rel.most.trans hmost⟩
            rw [show foD D ++ [(((A.last + 1 : Nat) : Int), ([] : Es))] = foD (D ++ [⟨((A.last + 1 : Nat) : Int), i', 1, [], [i']⟩]) by simp [foD, fo], ← hl'] at hS8
            rw [← hl']
            exact hS8
          · have hS6 := hS5.chg h6 c6 hS4.last hS4.msm
            exact brd (fun h => absurd h (by show ¬ ((A'.nodes : Nat) : Int) < m; omega)) fun _ => ⟨rfl, rfl, T6, _, _, ms, TA, tc, MA, mc, hS6, hmost⟩
        · -- Drop
          refine ⟨_, bo4.cell rfl, ?_⟩
          obtain ⟨A', D', e, rel, hP⟩ := aDrop (A := A) (D := D) hI op.id
          refine (hP hS4.sto).mono ?_
          rintro _ u6 ⟨rfl, T6, h6, c6⟩
          have hS6 := hS4.chg h6 c6 (by rw [rel.same.last]; exact hS4.last) hS4.msm
          have hm6 : A'.most = m := rel.same.most.trans hmost
          have hl6 : A'.last = A.last := rel.same.last
          refine ⟨_, rfl, ?_⟩
          rcases hf.cases with ⟨rfl, hgn, _⟩ | ⟨k, es, rfl, hFk, hgs⟩
          · rcases rel.rel with ⟨_, rfl, rfl, rfl⟩ | ⟨D1, d, D2, hD, hr, _⟩
            · exact brd (fun _ => ⟨rfl, rfl, T6, _, _, ms, TA, tc, MA, mc, hS6, hmost⟩) fun h => absurd (by decide) h
            · have := gF_split hI.ndF hD
              rw [hr, hgn] at this; cases this
          · obtain ⟨rfl, F1, F2, hF, rfl, hF'⟩ := rel.cases hI hFk
            refine brd (fun h => by omega) fun _ => ⟨_, _, _, hS6.bt.cell' rfl, _, hS6.bt.cell' rfl, (Drop_specR hS6.tr.t hS6.lt (by omega) hF (A.last : Int)).mono ?_⟩
            rintro _ u7 ⟨TA', tc', rfl, hT, e7⟩
            have hS7 := hS6.ext e7
            have hsub : ∀ p ∈ F1 ++ F2, p ∈ foD D := fun p hp => by
              rw [hF]
              rcases List.mem_append.1 hp with hp | hp
              · exact List.mem_append_left _ hp
              · exact List.mem_append_right _ (List.mem_cons_of_mem _ hp)
            have hlen : (F1 ++ F2).length ≤ j + 1 := by
              have := hFl
              rw [hF, List.length_append, List.length_cons] at this
              rw [List.length_append]; omega
            obtain ⟨q1, q2⟩ := hS7.setT (la' := (A.last : Int)) hT ⟨hlen, fun p hp => hS7.sml.es p (hsub p hp), fun p hp => hS7.sml.keys p (hsub p hp)⟩
            refine ⟨_, _, _, _, rfl, q1, fun u8 hu8 => ?_⟩
            obtain ⟨hS8, _⟩ := q2 u8 hu8
            rw [← hF', ← hl6] at hS8
            exact ⟨rfl, rfl, T6, A', D', ms, TA', tc', MA, mc, hS8, hm6⟩
        · -- Mark
          refine (aMark hS4.sto).mono ?_
          have hml := msR_len ms
          rintro _ u6 (⟨hge, rfl, e6⟩ | ⟨hlt, rfl, T6, h6, c6⟩)
          · replace hge : 100 ≤ ms.length := hge
            have hS6 := hS4.ext e6
            refine ⟨_, _, rfl, _, _, _, hS6.bt.cell rfl, _, hS6.bt.cell rfl, _, _, _, hS6.bt.cell rfl, (rMark hS6.tr hS6.lt).mono ?_⟩
            rintro _ u7 ⟨e7, ⟨_, rfl⟩ | ⟨hlt, _⟩⟩
            · have hS7 := hS6.ext e7
              obtain ⟨q1, q2⟩ := hS7.setS (la' := (A.last : Int)) hS7.tr hS7.sml
              exact ⟨_, _, _, _, _, _, _, _, _, rfl, q1, fun u8 hu8 => ⟨rfl, rfl, T, A, D, ms, TA, tc, MA, mc, (q2 u8 hu8).1, hmost⟩⟩
            · omega
          · replace hlt : ms.length < 100 := hlt
            have hS6 := hS4.chg h6 c6 hS4.last fun p hp => by
              rcases List.mem_append.1 hp with hp | hp
              · exact hS4.msm p hp
              · obtain rfl := List.mem_singleton.1 hp; exact ⟨hS4.sml, hS4.last⟩
            refine ⟨_, _, rfl, _, _, _, hS6.bt.cell rfl, _, hS6.bt.cell rfl, _, _, _, hS6.bt.cell rfl, (rMark hS6.tr hS6.lt).mono ?_⟩
            rintro _ u7 ⟨e7, ⟨hge, _⟩ | ⟨_, MA', mc', rfl, hR⟩⟩
            · omega
            · have hS7 := hS6.ext e7
              obtain ⟨q1, q2⟩ := hS7.setS (la' := (A.last : Int)) hR hS7.sml
              refine ⟨_, _, _, _, _, _, _, _, _, rfl, q1, fun u8 hu8 => ⟨rfl, by rw [hml], T6, A, D, ms ++ [(A, D)], TA, tc, MA', mc', ?_, hmost⟩⟩
              rw [show msR (ms ++ [(A, D)]) = msR ms ++ [(foD D, (A.last : Int))] by simp [msR]]
              exact (q2 u8 hu8).1
        · -- Back
          have hml := msR_len ms
          refine ⟨_, bo4.cell rfl, (aBack hS4.sto op.n).mono ?_⟩
          rintro _ u6 (⟨hb, rfl, rfl⟩ | ⟨h1, h2, rfl, B, D', T6, hB, h6, c6⟩)
          · replace hb : op.n < 1 ∨ (ms.length : Int) < op.n := hb
            refine ⟨_, rfl, _, _, _, hS4.bt.cell rfl, _, hS4.bt.cell rfl, _, _, _, hS4.bt.cell rfl, _, bo4.cell rfl, (rBack hS4.tr (by omega) op.n).mono ?_⟩
            rintro _ u7 ⟨e7, ⟨_, rfl⟩ | ⟨h1, h2, _⟩⟩
            · have hS7 := hS4.ext e7
              obtain ⟨q1, q2⟩ := hS7.setS (la' := (A.last : Int)) hS7.tr hS7.sml
              exact ⟨_, _, _, _, _, _, _, _, rfl, q1, fun u8 hu8 => ⟨rfl, rfl, T, A, D, ms, TA, tc, MA, mc, (q2 u8 hu8).1, hmost⟩⟩
            · omega
          · replace h2 : op.n ≤ (ms.length : Int) := h2
            replace hB : ms[(op.n - 1).toNat]? = some (B, D') := hB
            have hmem := List.mem_of_getElem? hB
            obtain ⟨hsB, hlB⟩ := hS4.msm _ hmem
            have hmB : B.most = m := (hS4.sto.good _ hmem).2.2.trans hmost
            have hS6 := hS4.chg h6 c6 hlB fun p hp => hS4.msm p ((List.take_sublist _ _).subset hp)
            have bo6 := keepO hgoT bo4 c6
            refine ⟨_, rfl, _, _, _, hS6.bt.cell rfl, _, hS6.bt.cell rfl, _, _, _, hS6.bt.cell rfl, _, bo6.cell rfl, (rBack hS6.tr (by omega) op.n).mono ?_⟩
            rintro _ u7 ⟨e7, ⟨hb, _⟩ | ⟨_, _, F', la', TA', tc', hF', rfl, hR⟩⟩
            · omega
            · have hS7 := hS6.ext e7
              obtain ⟨rfl, rfl⟩ : F' = foD D' ∧ la' = (B.last : Int) := by
                rw [msR, List.getElem?_map, hB] at hF'
                have := Option.some.inj hF'
                exact ⟨(Prod.mk.inj this).1.symm, (Prod.mk.inj this).2.symm⟩
              obtain ⟨q1, q2⟩ := hS7.setS (la' := (B.last : Int)) hR hsB
              refine ⟨_, _, _, _, _, _, _, _, rfl, q1, fun u8 hu8 => ⟨rfl, rfl, T6, B, D', ms.take (op.n - 1).toNat, TA', tc', MA, mc, ?_, hmB⟩⟩
              rw [msR_take]
              exact (q2 u8 hu8).1
        · -- Free
          have hml := msR_len ms
          refine ⟨_, bo4.cell rfl, (aFree hS4.sto op.n).mono ?_⟩
          rintro _ u6 (⟨hb, rfl, rfl⟩ | ⟨h1, h2, rfl, T6, h6, c6⟩)
          · replace hb : op.n < 1 ∨ (ms.length : Int) < op.n := hb
            refine ⟨_, rfl, _, _, _, hS4.bt.cell rfl, _, hS4.bt.cell rfl, _, _, _, hS4.bt.cell rfl, _, bo4.cell rfl, (rFree hS4.tr (by omega) op.n).mono ?_⟩
            rintro _ u7 ⟨e7, ⟨_, rfl⟩ | ⟨h1, h2, _⟩⟩
            · have hS7 := hS4.ext e7
              obtain ⟨q1, q2⟩ := hS7.setS (la' := (A.last : Int)) hS7.tr hS7.sml
              exact ⟨_, _, _, _, _, _, _, _, rfl, q1, fun u8 hu8 => ⟨rfl, rfl, T, A, D, ms, TA, tc, MA, mc, (q2 u8 hu8).1, hmost⟩⟩
            · omega
          · replace h2 : op.n ≤ (ms.length : Int) := h2
            have hS6 := hS4.chg h6 c6 hS4.last fun p hp => hS4.msm p ((List.take_sublist _ _).subset hp)
            have bo6 := keepO hgoT bo4 c6
            refine ⟨_, rfl, _, _, _, hS6.bt.cell rfl, _, hS6.bt.cell rfl, _, _, _, hS6.bt.cell rfl, _, bo6.cell rfl, (rFree hS6.tr (by omega) op.n).mono ?_⟩
            rintro _ u7 ⟨e7, ⟨hb, _⟩ | ⟨_, _, rfl, hR⟩⟩
            · omega
            · have hS7 := hS6.ext e7
              obtain ⟨q1, q2⟩ := hS7.setS (la' := (A.last : Int)) hR hS7.sml
              refine ⟨_, _, _, _, _, _, _, _, rfl, q1, fun u8 hu8 => ⟨rfl, rfl, T6, A, D, ms.take (op.n - 1).toNat, TA, tc, MA, mc, ?_, hmost⟩⟩
              rw [msR_take]
              exact (q2 u8 hu8).1
  · exact brd (fun _ => rfl) fun _ => brd (fun _ => rfl) fun _ => brd (fun _ => rfl) fun _ => rfl
end Go.Proofs.Ythfagbfllheneaa
set_option linter.unusedVariables false
namespace Go.Proofs.Ythfagbfllheneaa
open Go Go.Sx
theorem opens_Bs : Opens Try.prog 28 KBs (fun l => l.length ≤ maxLen ∧ ∀ a ∈ l, True) := opens_slice Try.underlying28 (by kernel_rfl) KB_pos (opens_u8 Try.underlying5)
theorem opens_Op : Opens Try.prog 30 KOp (fun _ => True) := by
  intro H enc w fuel cs x hx
  obtain ⟨hl, hf⟩ := opens_fields (by kernel_rfl) hx
  have hl3 : cs.length = 5 := hl.trans (by kernel_rfl)
  obtain ⟨k, hk, _⟩ := hf (K := Kd.int .i64) 0 (ft := 3) (off := 0) (by kernel_rfl) (by kernel_rfl) (opens_int Try.underlying3)
  obtain ⟨r, hr, _⟩ := hf (K := Kd.int .i64) 1 (ft := 3) (off := 1) (by kernel_rfl) (by kernel_rfl) (opens_int Try.underlying3)
  obtain ⟨n, hn, _⟩ := hf (K := Kd.int .i64) 2 (ft := 3) (off := 2) (by kernel_rfl) (by kernel_rfl) (opens_int Try.underlying3)
  obtain ⟨a, ha, _⟩ := hf (K := KBs) 3 (ft := 28) (off := 3) (by kernel_rfl) (by kernel_rfl) opens_Bs
  obtain ⟨b, hb, _⟩ := hf (K := KBs) 4 (ft := 28) (off := 4) (by kernel_rfl) (by kernel_rfl) opens_Bs
  match cs, hl3 with
  | [c0, c1, c2, c3, c4], _ =>
    have hk : [c0] = [.int .i64 k] := hk
    have hr : [c1] = [.int .i64 r] := hr
    have hn : [c2] = [.int .i64 n] := hn
    cases hk; cases hr; cases hn
    exact ⟨⟨k, r, n, a, b⟩, ⟨_, _, rfl, ha, hb⟩, trivial⟩
end Go.Proofs.Ythfagbfllheneaa
