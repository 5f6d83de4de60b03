/- The preconditions of Go functions, printed by a program of this workplace (nests.py); each is proved to be the engine's own. -/
import Derived.Test.YtakmlaliglmnmaaProg
import Derived.Test.YtakmlaliglmnmaaSxWp
set_option linter.unusedVariables false
set_option maxRecDepth 100000
namespace Go.Proofs.Ytakmlaliglmnmaa
open Go Go.Sx
noncomputable def cardindexlaw07_SorterNumbers.W : World → (Value → World → Prop) → Prop := fun (w : Go.World) (K : Go.Value → Go.World → Prop) => ∃ (x : Option Go.Addr), ∃ (x_1 : Nat), ∃ (x_2 : Nat),
 ∃ (w' : Go.World), Go.Sx.RunsTo Go.Proofs.Try.prog (Go.Instr.makeSlice (36 : Nat) (Go.Value.int Go.IntKind.i64 (201 : Int)) (Go.Value.int Go.IntKind.i64 (201 : Int))) w (Go.Value.slice x x_1 x_2) w' ∧
 Go.Sx.CallsV Go.Proofs.Try.prog (14 : Nat) #[Go.Value.slice x x_1 x_2, Go.Value.bool Bool.false] w' fun (v : Go.Value) (w' : Go.World) => ∃ (x : Option Go.Addr), ∃ (x_3 : Int), v = Go.Value.tuple
 #[Go.Value.pointer x, Go.Value.int Go.IntKind.i64 x_3] ∧ ∃ (x : Option Go.Addr), ∃ (x_4 : Nat), ∃ (x_5 : Nat), ∃ (w'_1 : Go.World), Go.Sx.RunsTo Go.Proofs.Try.prog (Go.Instr.makeSlice (36 : Nat)
 (Go.Value.int Go.IntKind.i64 (200 : Int)) (Go.Value.int Go.IntKind.i64 (200 : Int))) w' (Go.Value.slice x x_4 x_5) w'_1 ∧ Go.Sx.CallsV Go.Proofs.Try.prog (14 : Nat) #[Go.Value.slice x x_4 x_5,
 Go.Value.bool Bool.false] w'_1 fun (v : Go.Value) (w' : Go.World) => ∃ (x : Option Go.Addr), ∃ (x_6 : Int), v = Go.Value.tuple #[Go.Value.pointer x, Go.Value.int Go.IntKind.i64 x_6] ∧ ∀ (g : Nat) (w'_2
 : Go.World), Go.Sx.Fresh w' g w'_2 [Go.Value.bool Bool.false] (4 : Nat) → Go.Sx.CallsV Go.Proofs.Try.prog (14 : Nat) #[Go.Value.slice (Option.some (Go.Addr.mk g (0 : Nat) Option.none)) (1 : Nat) (1 :
 Nat), Go.Value.bool Bool.false] w'_2 fun (v : Go.Value) (w' : Go.World) => ∃ (x_7 : Option Go.Addr), ∃ (x_8 : Int), v = Go.Value.tuple #[Go.Value.pointer x_7, Go.Value.int Go.IntKind.i64 x_8] ∧ bif
 !Decidable.decide (x_3 = (2 : Int)) then K (Go.Value.bool Bool.false) w' else bif !Decidable.decide (x_6 = (0 : Int)) then K (Go.Value.bool Bool.false) w' else bif !Decidable.decide (x_8 = (0 : Int))
 then K (Go.Value.bool Bool.false) w' else Go.Sx.CallsV Go.Proofs.Try.prog (28 : Nat) #[Go.Value.int Go.IntKind.i64 (1 : Int)] w' fun (v : Go.Value) (w' : Go.World) => ∃ (x_9 : Int), ∃ (x_10 : Int), ∃
 (x_11 : ByteArray), v = Go.Value.agg #[Go.Value.int Go.IntKind.u8 x_9, Go.Value.int Go.IntKind.i64 x_10, Go.Value.string x_11] ∧ ∀ (g : Nat) (w'_3 : Go.World), Go.Sx.Fresh w' g w'_3 [Go.Value.int
 Go.IntKind.u8 x_9, Go.Value.int Go.IntKind.i64 x_10, Go.Value.string x_11] (31 : Nat) → Go.Sx.CallsV Go.Proofs.Try.prog (18 : Nat) #[Go.Value.pointer x_7, Go.Value.slice Option.none (0 : Nat) (0 :
 Nat), Go.Value.slice (Option.some (Go.Addr.mk g (0 : Nat) Option.none)) (1 : Nat) (1 : Nat)] (Go.World.drew w'_3) fun (v : Go.Value) (w' : Go.World) => ∃ (x_12 : Int), v = Go.Value.int Go.IntKind.i64
 x_12 ∧ bif Decidable.decide (x_12 = (2 : Int)) then ∀ (g_1 : Nat) (w'_4 : Go.World), Go.Sx.Fresh w' g_1 w'_4 [Go.Value.int Go.IntKind.u8 (9 : Int), Go.Value.int Go.IntKind.i64 (0 : Int),
 Go.Value.string (ByteArray.mk #[])] (31 : Nat) → Go.Sx.CallsV Go.Proofs.Try.prog (18 : Nat) #[Go.Value.pointer x_7, Go.Value.slice (Option.some (Go.Addr.mk g_1 (0 : Nat) Option.none)) (1 : Nat) (1 :
 Nat), Go.Value.slice (Option.some (Go.Addr.mk g (0 : Nat) Option.none)) (1 : Nat) (1 : Nat)] w'_4 fun (v : Go.Value) (w' : Go.World) => ∃ (x_13 : Int), v = Go.Value.int Go.IntKind.i64 x_13 ∧ bif
 Decidable.decide (x_13 = (2 : Int)) then ∀ (g_2 : Nat) (w'_5 : Go.World), Go.Sx.Fresh w' g_2 w'_5 [Go.Value.int Go.IntKind.u8 (0 : Int), Go.Value.int Go.IntKind.i64 (1 : Int), Go.Value.string
 (ByteArray.mk #[])] (31 : Nat) → Go.Sx.CallsV Go.Proofs.Try.prog (18 : Nat) #[Go.Value.pointer x_7, Go.Value.slice (Option.some (Go.Addr.mk g (0 : Nat) Option.none)) (1 : Nat) (1 : Nat), Go.Value.slice
 (Option.some (Go.Addr.mk g_2 (0 : Nat) Option.none)) (1 : Nat) (1 : Nat)] w'_5 fun (v : Go.Value) (w' : Go.World) => ∃ (x_14 : Int), v = Go.Value.int Go.IntKind.i64 x_14 ∧ bif Decidable.decide (x_14 =
 (2 : Int)) then ∃ (x_15 : Option Go.Addr), ∃ (x_16 : Nat), ∃ (x_17 : Nat), ∃ (w'_6 : Go.World), Go.Sx.RunsTo Go.Proofs.Try.prog (Go.Instr.makeSlice (32 : Nat) (Go.Value.int Go.IntKind.i64 (201 : Int))
 (Go.Value.int Go.IntKind.i64 (201 : Int))) w' (Go.Value.slice x_15 x_16 x_17) w'_6 ∧ Go.Sx.CallsV Go.Proofs.Try.prog (18 : Nat) #[Go.Value.pointer x_7, Go.Value.slice (Option.some (Go.Addr.mk g (0 :
 Nat) Option.none)) (1 : Nat) (1 : Nat), Go.Value.slice x_15 x_16 x_17] w'_6 fun (v : Go.Value) (w' : Go.World) => ∃ (x_18 : Int), v = Go.Value.int Go.IntKind.i64 x_18 ∧ bif Decidable.decide (x_18 = (3
 : Int)) then ∃ (x_19 : Option Go.Addr), ∃ (x_20 : Nat), ∃ (x_21 : Nat), ∃ (w'_7 : Go.World), Go.Sx.RunsTo Go.Proofs.Try.prog (Go.Instr.makeSlice (32 : Nat) (Go.Value.int Go.IntKind.i64 (201 : Int))
 (Go.Value.int Go.IntKind.i64 (201 : Int))) w' (Go.Value.slice x_19 x_20 x_21) w'_7 ∧ Go.Sx.CallsV Go.Proofs.Try.prog (18 : Nat) #[Go.Value.pointer x_7, Go.Value.slice x_19 x_20 x_21, Go.Value.slice
 (Option.some (Go.Addr.mk g (0 : Nat) Option.none)) (1 : Nat) (1 : Nat)] w'_7 fun (v : Go.Value) (w' : Go.World) => ∃ (x_22 : Int), v = Go.Value.int Go.IntKind.i64 x_22 ∧ bif Decidable.decide (x_22 = (3
 : Int)) then (∃ (x_23 : Option Go.Addr), ∃ (x_24 : Nat), ∃ (x_25 : Nat), ∃ (w'_8 : Go.World), Go.Sx.RunsTo Go.Proofs.Try.prog (Go.Instr.makeSlice (32 : Nat) (Go.Value.int Go.IntKind.i64 (200 : Int))
 (Go.Value.int Go.IntKind.i64 (200 : Int))) w' (Go.Value.slice x_23 x_24 x_25) w'_8 ∧ ∃ (x_26 : Option Go.Addr), ∃ (x_27 : Nat), ∃ (x_28 : Nat), ∃ (w' : Go.World), Go.Sx.RunsTo Go.Proofs.Try.prog
 (Go.Instr.makeSlice (32 : Nat) (Go.Value.int Go.IntKind.i64 (200 : Int)) (Go.Value.int Go.IntKind.i64 (200 : Int))) w'_8 (Go.Value.slice x_26 x_27 x_28) w' ∧ Go.Sx.CallsV Go.Proofs.Try.prog (18 : Nat)
 #[Go.Value.pointer x, Go.Value.slice x_23 x_24 x_25, Go.Value.slice x_26 x_27 x_28] w' fun (v : Go.Value) (w' : Go.World) => ∃ (x : Int), v = Go.Value.int Go.IntKind.i64 x ∧ ∃ (x_29 : Option Go.Addr),
 ∃ (x_30 : Nat), ∃ (x_31 : Nat), ∃ (w'_9 : Go.World), Go.Sx.RunsTo Go.Proofs.Try.prog (Go.Instr.makeSlice (32 : Nat) (Go.Value.int Go.IntKind.i64 (16 : Int)) (Go.Value.int Go.IntKind.i64 (16 : Int))) w'
 (Go.Value.slice x_29 x_30 x_31) w'_9 ∧ ∃ (I : Int → Go.World → Prop), ∃ (μ : Int → Go.World → Nat), I (0 : Int) w'_9 ∧ ∀ (x_32 : Int) (w : Go.World), I x_32 w → bif Decidable.decide (x_32 < (↑x_30 :
 Int)) then Go.Sx.CallsV Go.Proofs.Try.prog (30 : Nat) #[Go.Value.string (ByteArray.mk #[(120 : UInt8)]), Go.Value.int Go.IntKind.i64 (65536 : Int)] w fun (v : Go.Value) (w' : Go.World) => ∃ (x :
 ByteArray), v = Go.Value.string x ∧ Go.Sx.CallsV Go.Proofs.Try.prog (29 : Nat) #[Go.Value.string x] w' fun (v : Go.Value) (w' : Go.World) => ∃ (x : Int), ∃ (x_33 : Int), ∃ (x_34 : ByteArray), v =
 Go.Value.agg #[Go.Value.int Go.IntKind.u8 x, Go.Value.int Go.IntKind.i64 x_33, Go.Value.string x_34] ∧ ∃ (ad : Go.Addr), x_29 = Option.some ad ∧ ((0 : Int) ≤ x_32 ∧ x_32 < (↑x_30 : Int)) ∧ Go.Sx.stOK
 (Go.Addr.add ad (Int.toNat x_32 * (3 : Nat))) (0 : Nat) [Go.Value.int Go.IntKind.u8 x, Go.Value.int Go.IntKind.i64 x_33, Go.Value.string x_34] w' ∧ ∀ (w'_10 : Go.World), w'_10 = Go.Sx.setAll
 (Go.Addr.add ad (Int.toNat x_32 * (3 : Nat))) (0 : Nat) [Go.Value.int Go.IntKind.u8 x, Go.Value.int Go.IntKind.i64 x_33, Go.Value.string x_34] w' → I (Go.IntKind.wrap Go.IntKind.i64 (x_32 + (1 : Int)))
 w'_10 ∧ μ (Go.IntKind.wrap Go.IntKind.i64 (x_32 + (1 : Int))) w'_10 < μ x_32 w else Go.Sx.CallsV Go.Proofs.Try.prog (18 : Nat) #[Go.Value.pointer x_7, Go.Value.slice (Option.some (Go.Addr.mk g (0 :
 Nat) Option.none)) (1 : Nat) (1 : Nat), Go.Value.slice x_29 x_30 x_31] w fun (v : Go.Value) (w' : Go.World) => ∃ (x_33 : Int), v = Go.Value.int Go.IntKind.i64 x_33 ∧ bif Decidable.decide (x_33 = (3 :
 Int)) then Go.Sx.CallsV Go.Proofs.Try.prog (26 : Nat) #[Go.Value.pointer x_7] w' fun (v : Go.Value) (w' : Go.World) => ∃ (x_34 : Int), v = Go.Value.int Go.IntKind.i64 x_34 ∧ bif Decidable.decide (x_34
 = (0 : Int)) then Go.Sx.CallsV Go.Proofs.Try.prog (24 : Nat) #[Go.Value.pointer x_7] w' fun (v : Go.Value) (w' : Go.World) => ∃ (x_35 : Int), v = Go.Value.int Go.IntKind.i64 x_35 ∧ Go.Sx.CallsV
 Go.Proofs.Try.prog (29 : Nat) #[Go.Value.string (ByteArray.mk #[(105 : UInt8), (110 : UInt8)])] w' fun (v : Go.Value) (w' : Go.World) => ∃ (x_36 : Int), ∃ (x_37 : Int), ∃ (x_38 : ByteArray), v =
 Go.Value.agg #[Go.Value.int Go.IntKind.u8 x_36, Go.Value.int Go.IntKind.i64 x_37, Go.Value.string x_38] ∧ ∀ (g_3 : Nat) (w'_10 : Go.World), Go.Sx.Fresh w' g_3 w'_10 [Go.Value.int Go.IntKind.u8 x_36,
 Go.Value.int Go.IntKind.i64 x_37, Go.Value.string x_38] (31 : Nat) → Go.Sx.CallsV Go.Proofs.Try.prog (18 : Nat) #[Go.Value.pointer x_7, Go.Value.slice (Option.some (Go.Addr.mk g (0 : Nat) Option.none))
 (1 : Nat) (1 : Nat), Go.Value.slice (Option.some (Go.Addr.mk g_3 (0 : Nat) Option.none)) (1 : Nat) (1 : Nat)] w'_10 fun (v : Go.Value) (w' : Go.World) => ∃ (x_39 : Int), v = Go.Value.int Go.IntKind.i64
 x_39 ∧ Go.Sx.CallsV Go.Proofs.Try.prog (29 : Nat) #[Go.Value.string (ByteArray.mk #[(111 : UInt8), (117 : UInt8), (116 : UInt8)])] w' fun (v : Go.Value) (w' : Go.World) => ∃ (x_40 : Int), ∃ (x_41 :
 Int), ∃ (x_42 : ByteArray), v = Go.Value.agg #[Go.Value.int Go.IntKind.u8 x_40, Go.Value.int Go.IntKind.i64 x_41, Go.Value.string x_42] ∧ ∃ (ad : Go.Addr), Option.some (Go.Addr.mk g_3 (0 : Nat)
 Option.none) = Option.some ad ∧ ((0 : Int) ≤ (0 : Int) ∧ (0 : Int) < (↑(1 : Nat) : Int)) ∧ Go.Sx.stOK (Go.Addr.add ad (Int.toNat (0 : Int) * (3 : Nat))) (0 : Nat) [Go.Value.int Go.IntKind.u8 x_40,
 Go.Value.int Go.IntKind.i64 x_41, Go.Value.string x_42] w' ∧ ∀ (w'_11 : Go.World), w'_11 = Go.Sx.setAll (Go.Addr.add ad (Int.toNat (0 : Int) * (3 : Nat))) (0 : Nat) [Go.Value.int Go.IntKind.u8 x_40,
 Go.Value.int Go.IntKind.i64 x_41, Go.Value.string x_42] w' → Go.Sx.CallsV Go.Proofs.Try.prog (20 : Nat) #[Go.Value.pointer x_7] w'_11 fun (v : Go.Value) (w' : Go.World) => ∃ (x_43 : Int), v =
 Go.Value.int Go.IntKind.i64 x_43 ∧ Go.Sx.CallsV Go.Proofs.Try.prog (20 : Nat) #[Go.Value.pointer x_7] w' fun (v : Go.Value) (w' : Go.World) => ∃ (x_44 : Int), v = Go.Value.int Go.IntKind.i64 x_44 ∧
 Go.Sx.CallsV Go.Proofs.Try.prog (22 : Nat) #[Go.Value.pointer x_7] w' fun (v : Go.Value) (w' : Go.World) => ∃ (x_45 : Option Go.Addr), ∃ (x_46 : Nat), ∃ (x_47 : Nat), ∃ (x_48 : Bool), v =
 Go.Value.tuple #[Go.Value.slice x_45 x_46 x_47, Go.Value.bool x_48] ∧ bif !Decidable.decide ((↑x_46 : Int) = (1 : Int)) then K (Go.Value.bool Bool.false) w' else Go.Sx.CallsV Go.Proofs.Try.prog (29 :
 Nat) #[Go.Value.string (ByteArray.mk #[(111 : UInt8), (117 : UInt8), (116 : UInt8)])] w' fun (v : Go.Value) (w' : Go.World) => ∃ (x_49 : Int), ∃ (x_50 : Int), ∃ (x_51 : ByteArray), v = Go.Value.agg
 #[Go.Value.int Go.IntKind.u8 x_49, Go.Value.int Go.IntKind.i64 x_50, Go.Value.string x_51] ∧ ∃ (ad : Go.Addr), x_45 = Option.some ad ∧ ((0 : Int) ≤ (0 : Int) ∧ (0 : Int) < (↑x_46 : Int)) ∧ Go.Sx.stOK
 (Go.Addr.add ad (Int.toNat (0 : Int) * (3 : Nat))) (0 : Nat) [Go.Value.int Go.IntKind.u8 x_49, Go.Value.int Go.IntKind.i64 x_50, Go.Value.string x_51] w' ∧ ∀ (w'_12 : Go.World), w'_12 = Go.Sx.setAll
 (Go.Addr.add ad (Int.toNat (0 : Int) * (3 : Nat))) (0 : Nat) [Go.Value.int Go.IntKind.u8 x_49, Go.Value.int Go.IntKind.i64 x_50, Go.Value.string x_51] w' → Go.Sx.CallsV Go.Proofs.Try.prog (22 : Nat)
 #[Go.Value.pointer x_7] w'_12 fun (v : Go.Value) (w' : Go.World) => ∃ (x_52 : Option Go.Addr), ∃ (x_53 : Nat), ∃ (x_54 : Nat), ∃ (x_55 : Bool), v = Go.Value.tuple #[Go.Value.slice x_52 x_53 x_54,
 Go.Value.bool x_55] ∧ Go.Sx.CallsV Go.Proofs.Try.prog (24 : Nat) #[Go.Value.pointer x_7] w' fun (v : Go.Value) (w' : Go.World) => ∃ (x_56 : Int), v = Go.Value.int Go.IntKind.i64 x_56 ∧ Go.Sx.CallsV
 Go.Proofs.Try.prog (22 : Nat) #[Go.Value.pointer x_7] w' fun (v : Go.Value) (w' : Go.World) => ∃ (x_57 : Option Go.Addr), ∃ (x_58 : Nat), ∃ (x_59 : Nat), ∃ (x_60 : Bool), v = Go.Value.tuple
 #[Go.Value.slice x_57 x_58 x_59, Go.Value.bool x_60] ∧ Go.Sx.CallsV Go.Proofs.Try.prog (14 : Nat) #[Go.Value.slice Option.none (0 : Nat) (0 : Nat), Go.Value.bool Bool.true] w' fun (v : Go.Value) (w' :
 Go.World) => ∃ (x_61 : Option Go.Addr), ∃ (x_62 : Int), v = Go.Value.tuple #[Go.Value.pointer x_61, Go.Value.int Go.IntKind.i64 x_62] ∧ ∃ (I : Int → Go.World → Prop), ∃ (μ : Int → Go.World → Nat), I (0
 : Int) w' ∧ ∀ (x_63 : Int) (w : Go.World), I x_63 w → bif Decidable.decide (x_63 < (65536 : Int)) then Go.Sx.CallsV Go.Proofs.Try.prog (18 : Nat) #[Go.Value.pointer x_61, Go.Value.slice Option.none (0
 : Nat) (0 : Nat), Go.Value.slice Option.none (0 : Nat) (0 : Nat)] w fun (v : Go.Value) (w' : Go.World) => ∃ (x : Int), v = Go.Value.int Go.IntKind.i64 x ∧ bif !Decidable.decide (x = (0 : Int)) then K
 (Go.Value.bool Bool.false) w' else I (Go.IntKind.wrap Go.IntKind.i64 (x_63 + (1 : Int))) w' ∧ μ (Go.IntKind.wrap Go.IntKind.i64 (x_63 + (1 : Int))) w' < μ x_63 w else Go.Sx.CallsV Go.Proofs.Try.prog
 (18 : Nat) #[Go.Value.pointer x_61, Go.Value.slice Option.none (0 : Nat) (0 : Nat), Go.Value.slice Option.none (0 : Nat) (0 : Nat)] w fun (v : Go.Value) (w' : Go.World) => ∃ (x_64 : Int), v =
 Go.Value.int Go.IntKind.i64 x_64 ∧ Go.Sx.CallsV Go.Proofs.Try.prog (26 : Nat) #[Go.Value.pointer x_61] w' fun (v : Go.Value) (w' : Go.World) => ∃ (x_65 : Int), v = Go.Value.int Go.IntKind.i64 x_65 ∧
 Go.Sx.CallsV Go.Proofs.Try.prog (20 : Nat) #[Go.Value.pointer x_61] w' fun (v : Go.Value) (w' : Go.World) => ∃ (x_66 : Int), v = Go.Value.int Go.IntKind.i64 x_66 ∧ bif Decidable.decide (x = (0 : Int))
 then bif Decidable.decide (x_35 = (70 : Int)) then bif Decidable.decide (x_39 = (0 : Int)) then bif Decidable.decide (x_43 = (0 : Int)) then bif Decidable.decide (x_44 = (70 : Int)) then bif x_48 then
 bif !x_55 then bif Decidable.decide (x_56 = (0 : Int)) then bif x_60 then bif Decidable.decide ((↑x_58 : Int) = (1 : Int)) then ∃ (ad : Go.Addr), x_57 = Option.some ad ∧ ((0 : Int) ≤ (0 : Int) ∧ (0 :
 Int) < (↑x_58 : Int)) ∧ ∃ (S : Go.World → Prop), S (Go.World.drew w') ∧ ∃ (x : Int), (∀ (u : Go.World), S u → Go.World.cell? u (Go.Addr.add (Go.Addr.add ad (Int.toNat (0 : Int) * (3 : Nat))) (0 : Nat))
 = Option.some (Go.Value.int Go.IntKind.u8 x)) ∧ ∃ (x_67 : Int), (∀ (u : Go.World), S u → Go.World.cell? u (Go.Addr.add (Go.Addr.add ad (Int.toNat (0 : Int) * (3 : Nat))) ((0 : Nat) + (1 : Nat))) =
 Option.some (Go.Value.int Go.IntKind.i64 x_67)) ∧ ∃ (x_68 : ByteArray), (∀ (u : Go.World), S u → Go.World.cell? u (Go.Addr.add (Go.Addr.add ad (Int.toNat (0 : Int) * (3 : Nat))) ((0 : Nat) + (1 : Nat)
 + (1 : Nat))) = Option.some (Go.Value.string x_68)) ∧ Go.Sx.CallsV Go.Proofs.Try.prog (29 : Nat) #[Go.Value.string (ByteArray.mk #[(105 : UInt8), (110 : UInt8)])] (Go.World.drew w') fun (v : Go.Value)
 (w' : Go.World) => ∃ (x_69 : Int), ∃ (x_70 : Int), ∃ (x_71 : ByteArray), v = Go.Value.agg #[Go.Value.int Go.IntKind.u8 x_69, Go.Value.int Go.IntKind.i64 x_70, Go.Value.string x_71] ∧ S w' ∧ bif
 Go.Program.stoodInHeld Go.Proofs.Try.prog (31 : Nat) || Go.Program.eqGuardType Go.Proofs.Try.prog (Go.Program.depth Go.Proofs.Try.prog) (31 : Nat) || List.any (Array.toList #[Go.Field.mk "Kind" (29 :
 Nat) (0 : Nat) Bool.false "" "" (0 : Nat), Go.Field.mk "N" (2 : Nat) (1 : Nat) Bool.false "" "" (8 : Nat), Go.Field.mk "S" (9 : Nat) (2 : Nat) Bool.false "" "" (16 : Nat)]) fun (f : Go.Field) =>
 Go.Field.name f == "_" then False else bif Decidable.decide (x = x_69) && (Decidable.decide (x_67 = x_70) && (ByteArray.toList x_68 == ByteArray.toList x_71 && Bool.true)) then bif Decidable.decide
 (x_64 = (5 : Int)) then bif Decidable.decide (x_65 = (65536 : Int)) then bif Decidable.decide (x_66 = (0 : Int)) then Go.Sx.CallsV Go.Proofs.Try.prog (26 : Nat) #[Go.Value.pointer x_61] w' fun (v :
 Go.Value) (w' : Go.World) => ∃ (x : Int), v = Go.Value.int Go.IntKind.i64 x ∧ S w' ∧ bif Decidable.decide (x = (1 : Int)) then Go.Sx.CallsV Go.Proofs.Try.prog (11 : Nat) #[] w' fun (v : Go.Value) (w' :
 Go.World) => ∃ (x : Bool), v = Go.Value.bool x ∧ S w' ∧ K (Go.Value.bool x) w' else K (Go.Value.bool Bool.false) w' else K (Go.Value.bool Bool.false) w' else K (Go.Value.bool Bool.false) w' else K
 (Go.Value.bool Bool.false) w' else K (Go.Value.bool Bool.false) w' else K (Go.Value.bool Bool.false) (Go.World.drew w') else K (Go.Value.bool Bool.false) (Go.World.drew w') else K (Go.Value.bool
 Bool.false) (Go.World.drew w') else K (Go.Value.bool Bool.false) (Go.World.drew w') else K (Go.Value.bool Bool.false) (Go.World.drew w') else K (Go.Value.bool Bool.false) (Go.World.drew w') else K
 (Go.Value.bool Bool.false) (Go.World.drew w') else K (Go.Value.bool Bool.false) (Go.World.drew w') else K (Go.Value.bool Bool.false) (Go.World.drew w') else K (Go.Value.bool Bool.false) (Go.World.drew
 w') else Go.Sx.CallsV Go.Proofs.Try.prog (29 : Nat) #[Go.Value.string (ByteArray.mk #[(105 : UInt8), (110 : UInt8)])] w' fun (v : Go.Value) (w' : Go.World) => ∃ (x_35 : Int), ∃ (x_36 : Int), ∃ (x_37 :
 ByteArray), v = Go.Value.agg #[Go.Value.int Go.IntKind.u8 x_35, Go.Value.int Go.IntKind.i64 x_36, Go.Value.string x_37] ∧ ∀ (g_3 : Nat) (w'_10 : Go.World), Go.Sx.Fresh w' g_3 w'_10 [Go.Value.int
 Go.IntKind.u8 x_35, Go.Value.int Go.IntKind.i64 x_36, Go.Value.string x_37] (31 : Nat) → Go.Sx.CallsV Go.Proofs.Try.prog (18 : Nat) #[Go.Value.pointer x_7, Go.Value.slice (Option.some (Go.Addr.mk g (0
 : Nat) Option.none)) (1 : Nat) (1 : Nat), Go.Value.slice (Option.some (Go.Addr.mk g_3 (0 : Nat) Option.none)) (1 : Nat) (1 : Nat)] w'_10 fun (v : Go.Value) (w' : Go.World) => ∃ (x_38 : Int), v =
 Go.Value.int Go.IntKind.i64 x_38 ∧ Go.Sx.CallsV Go.Proofs.Try.prog (29 : Nat) #[Go.Value.string (ByteArray.mk #[(111 : UInt8), (117 : UInt8), (116 : UInt8)])] w' fun (v : Go.Value) (w' : Go.World) => ∃
 (x_39 : Int), ∃ (x_40 : Int), ∃ (x_41 : ByteArray), v = Go.Value.agg #[Go.Value.int Go.IntKind.u8 x_39, Go.Value.int Go.IntKind.i64 x_40, Go.Value.string x_41] ∧ ∃ (ad : Go.Addr), Option.some
 (Go.Addr.mk g_3 (0 : Nat) Option.none) = Option.some ad ∧ ((0 : Int) ≤ (0 : Int) ∧ (0 : Int) < (↑(1 : Nat) : Int)) ∧ Go.Sx.stOK (Go.Addr.add ad (Int.toNat (0 : Int) * (3 : Nat))) (0 : Nat)
 [Go.Value.int Go.IntKind.u8 x_39, Go.Value.int Go.IntKind.i64 x_40, Go.Value.string x_41] w' ∧ ∀ (w'_11 : Go.World), w'_11 = Go.Sx.setAll (Go.Addr.add ad (Int.toNat (0 : Int) * (3 : Nat))) (0 : Nat)
 [Go.Value.int Go.IntKind.u8 x_39, Go.Value.int Go.IntKind.i64 x_40, Go.Value.string x_41] w' → Go.Sx.CallsV Go.Proofs.Try.prog (20 : Nat) #[Go.Value.pointer x_7] w'_11 fun (v : Go.Value) (w' :
 Go.World) => ∃ (x_42 : Int), v = Go.Value.int Go.IntKind.i64 x_42 ∧ Go.Sx.CallsV Go.Proofs.Try.prog (20 : Nat) #[Go.Value.pointer x_7] w' fun (v : Go.Value) (w' : Go.World) => ∃ (x_43 : Int), v =
 Go.Value.int Go.IntKind.i64 x_43 ∧ Go.Sx.CallsV Go.Proofs.Try.prog (22 : Nat) #[Go.Value.pointer x_7] w' fun (v : Go.Value) (w' : Go.World) => ∃ (x_44 : Option Go.Addr), ∃ (x_45 : Nat), ∃ (x_46 : Nat),
 ∃ (x_47 : Bool), v = Go.Value.tuple #[Go.Value.slice x_44 x_45 x_46, Go.Value.bool x_47] ∧ bif !Decidable.decide ((↑x_45 : Int) = (1 : Int)) then K (Go.Value.bool Bool.false) w' else Go.Sx.CallsV
 Go.Proofs.Try.prog (29 : Nat) #[Go.Value.string (ByteArray.mk #[(111 : UInt8), (117 : UInt8), (116 : UInt8)])] w' fun (v : Go.Value) (w' : Go.World) => ∃ (x_48 : Int), ∃ (x_49 : Int), ∃ (x_50 :
 ByteArray), v = Go.Value.agg #[Go.Value.int Go.IntKind.u8 x_48, Go.Value.int Go.IntKind.i64 x_49, Go.Value.string x_50] ∧ ∃ (ad : Go.Addr), x_44 = Option.some ad ∧ ((0 : Int) ≤ (0 : Int) ∧ (0 : Int) <
 (↑x_45 : Int)) ∧ Go.Sx.stOK (Go.Addr.add ad (Int.toNat (0 : Int) * (3 : Nat))) (0 : Nat) [Go.Value.int Go.IntKind.u8 x_48, Go.Value.int Go.IntKind.i64 x_49, Go.Value.string x_50] w' ∧ ∀ (w'_12 :
 Go.World), w'_12 = Go.Sx.setAll (Go.Addr.add ad (Int.toNat (0 : Int) * (3 : Nat))) (0 : Nat) [Go.Value.int Go.IntKind.u8 x_48, Go.Value.int Go.IntKind.i64 x_49, Go.Value.string x_50] w' → Go.Sx.CallsV
 Go.Proofs.Try.prog (22 : Nat) #[Go.Value.pointer x_7] w'_12 fun (v : Go.Value) (w' : Go.World) => ∃ (x_51 : Option Go.Addr), ∃ (x_52 : Nat), ∃ (x_53 : Nat), ∃ (x_54 : Bool), v = Go.Value.tuple
 #[Go.Value.slice x_51 x_52 x_53, Go.Value.bool x_54] ∧ Go.Sx.CallsV Go.Proofs.Try.prog (24 : Nat) #[Go.Value.pointer x_7] w' fun (v : Go.Value) (w' : Go.World) => ∃ (x_55 : Int), v = Go.Value.int
 Go.IntKind.i64 x_55 ∧ Go.Sx.CallsV Go.Proofs.Try.prog (22 : Nat) #[Go.Value.pointer x_7] w' fun (v : Go.Value) (w' : Go.World) => ∃ (x_56 : Option Go.Addr), ∃ (x_57 : Nat), ∃ (x_58 : Nat), ∃ (x_59 :
 Bool), v = Go.Value.tuple #[Go.Value.slice x_56 x_57 x_58, Go.Value.bool x_59] ∧ Go.Sx.CallsV Go.Proofs.Try.prog (14 : Nat) #[Go.Value.slice Option.none (0 : Nat) (0 : Nat), Go.Value.bool Bool.true] w'
 fun (v : Go.Value) (w' : Go.World) => ∃ (x_60 : Option Go.Addr), ∃ (x_61 : Int), v = Go.Value.tuple #[Go.Value.pointer x_60, Go.Value.int Go.IntKind.i64 x_61] ∧ ∃ (I : Int → Go.World → Prop), ∃ (μ :
 Int → Go.World → Nat), I (0 : Int) w' ∧ ∀ (x_62 : Int) (w : Go.World), I x_62 w → bif Decidable.decide (x_62 < (65536 : Int)) then Go.Sx.CallsV Go.Proofs.Try.prog (18 : Nat) #[Go.Value.pointer x_60,
 Go.Value.slice Option.none (0 : Nat) (0 : Nat), Go.Value.slice Option.none (0 : Nat) (0 : Nat)] w fun (v : Go.Value) (w' : Go.World) => ∃ (x : Int), v = Go.Value.int Go.IntKind.i64 x ∧ bif
 !Decidable.decide (x = (0 : Int)) then K (Go.Value.bool Bool.false) w' else I (Go.IntKind.wrap Go.IntKind.i64 (x_62 + (1 : Int))) w' ∧ μ (Go.IntKind.wrap Go.IntKind.i64 (x_62 + (1 : Int))) w' < μ x_62
 w else Go.Sx.CallsV Go.Proofs.Try.prog (18 : Nat) #[Go.Value.pointer x_60, Go.Value.slice Option.none (0 : Nat) (0 : Nat), Go.Value.slice Option.none (0 : Nat) (0 : Nat)] w fun (v : Go.Value) (w' :
 Go.World) => ∃ (x_63 : Int), v = Go.Value.int Go.IntKind.i64 x_63 ∧ Go.Sx.CallsV Go.Proofs.Try.prog (26 : Nat) #[Go.Value.pointer x_60] w' fun (v : Go.Value) (w' : Go.World) => ∃ (x_64 : Int), v =
 Go.Value.int Go.IntKind.i64 x_64 ∧ Go.Sx.CallsV Go.Proofs.Try.prog (20 : Nat) #[Go.Value.pointer x_60] w' fun (v : Go.Value) (w' : Go.World) => ∃ (x_65 : Int), v = Go.Value.int Go.IntKind.i64 x_65 ∧
 bif Decidable.decide (x = (0 : Int)) then K (Go.Value.bool Bool.false) (Go.World.drew w') else K (Go.Value.bool Bool.false) (Go.World.drew w') else Go.Sx.CallsV Go.Proofs.Try.prog (29 : Nat)
 #[Go.Value.string (ByteArray.mk #[(105 : UInt8), (110 : UInt8)])] w' fun (v : Go.Value) (w' : Go.World) => ∃ (x_34 : Int), ∃ (x_35 : Int), ∃ (x_36 : ByteArray), v = Go.Value.agg #[Go.Value.int
 Go.IntKind.u8 x_34, Go.Value.int Go.IntKind.i64 x_35, Go.Value.string x_36] ∧ ∀ (g_3 : Nat) (w'_10 : Go.World), Go.Sx.Fresh w' g_3 w'_10 [Go.Value.int Go.IntKind.u8 x_34, Go.Value.int Go.IntKind.i64
 x_35, Go.Value.string x_36] (31 : Nat) → Go.Sx.CallsV Go.Proofs.Try.prog (18 : Nat) #[Go.Value.pointer x_7, Go.Value.slice (Option.some (Go.Addr.mk g (0 : Nat) Option.none)) (1 : Nat) (1 : Nat),
 Go.Value.slice (Option.some (Go.Addr.mk g_3 (0 : Nat) Option.none)) (1 : Nat) (1 : Nat)] w'_10 fun (v : Go.Value) (w' : Go.World) => ∃ (x_37 : Int), v = Go.Value.int Go.IntKind.i64 x_37 ∧ Go.Sx.CallsV
 Go.Proofs.Try.prog (29 : Nat) #[Go.Value.string (ByteArray.mk #[(111 : UInt8), (117 : UInt8), (116 : UInt8)])] w' fun (v : Go.Value) (w' : Go.World) => ∃ (x_38 : Int), ∃ (x_39 : Int), ∃ (x_40 :
 ByteArray), v = Go.Value.agg #[Go.Value.int Go.IntKind.u8 x_38, Go.Value.int Go.IntKind.i64 x_39, Go.Value.string x_40] ∧ ∃ (ad : Go.Addr), Option.some (Go.Addr.mk g_3 (0 : Nat) Option.none) =
 Option.some ad ∧ ((0 : Int) ≤ (0 : Int) ∧ (0 : Int) < (↑(1 : Nat) : Int)) ∧ Go.Sx.stOK (Go.Addr.add ad (Int.toNat (0 : Int) * (3 : Nat))) (0 : Nat) [Go.Value.int Go.IntKind.u8 x_38, Go.Value.int
 Go.IntKind.i64 x_39, Go.Value.string x_40] w' ∧ ∀ (w'_11 : Go.World), w'_11 = Go.Sx.setAll (Go.Addr.add ad (Int.toNat (0 : Int) * (3 : Nat))) (0 : Nat) [Go.Value.int Go.IntKind.u8 x_38, Go.Value.int
 Go.IntKind.i64 x_39, Go.Value.string x_40] w' → Go.Sx.CallsV Go.Proofs.Try.prog (20 : Nat) #[Go.Value.pointer x_7] w'_11 fun (v : Go.Value) (w' : Go.World) => ∃ (x_41 : Int), v = Go.Value.int
 Go.IntKind.i64 x_41 ∧ Go.Sx.CallsV Go.Proofs.Try.prog (20 : Nat) #[Go.Value.pointer x_7] w' fun (v : Go.Value) (w' : Go.World) => ∃ (x_42 : Int), v = Go.Value.int Go.IntKind.i64 x_42 ∧ Go.Sx.CallsV
 Go.Proofs.Try.prog (22 : Nat) #[Go.Value.pointer x_7] w' fun (v : Go.Value) (w' : Go.World) => ∃ (x_43 : Option Go.Addr), ∃ (x_44 : Nat), ∃ (x_45 : Nat), ∃ (x_46 : Bool), v = Go.Value.tuple
 #[Go.Value.slice x_43 x_44 x_45, Go.Value.bool x_46] ∧ bif !Decidable.decide ((↑x_44 : Int) = (1 : Int)) then K (Go.Value.bool Bool.false) w' else Go.Sx.CallsV Go.Proofs.Try.prog (29 : Nat)
 #[Go.Value.string (ByteArray.mk #[(111 : UInt8), (117 : UInt8), (116 : UInt8)])] w' fun (v : Go.Value) (w' : Go.World) => ∃ (x_47 : Int), ∃ (x_48 : Int), ∃ (x_49 : ByteArray), v = Go.Value.agg
 #[Go.Value.int Go.IntKind.u8 x_47, Go.Value.int Go.IntKind.i64 x_48, Go.Value.string x_49] ∧ ∃ (ad : Go.Addr), x_43 = Option.some ad ∧ ((0 : Int) ≤ (0 : Int) ∧ (0 : Int) < (↑x_44 : Int)) ∧ Go.Sx.stOK
 (Go.Addr.add ad (Int.toNat (0 : Int) * (3 : Nat))) (0 : Nat) [Go.Value.int Go.IntKind.u8 x_47, Go.Value.int Go.IntKind.i64 x_48, Go.Value.string x_49] w' ∧ ∀ (w'_12 : Go.World), w'_12 = Go.Sx.setAll
 (Go.Addr.add ad (Int.toNat (0 : Int) * (3 : Nat))) (0 : Nat) [Go.Value.int Go.IntKind.u8 x_47, Go.Value.int Go.IntKind.i64 x_48, Go.Value.string x_49] w' → Go.Sx.CallsV Go.Proofs.Try.prog (22 : Nat)
 #[Go.Value.pointer x_7] w'_12 fun (v : Go.Value) (w' : Go.World) => ∃ (x_50 : Option Go.Addr), ∃ (x_51 : Nat), ∃ (x_52 : Nat), ∃ (x_53 : Bool), v = Go.Value.tuple #[Go.Value.slice x_50 x_51 x_52,
 Go.Value.bool x_53] ∧ Go.Sx.CallsV Go.Proofs.Try.prog (24 : Nat) #[Go.Value.pointer x_7] w' fun (v : Go.Value) (w' : Go.World) => ∃ (x_54 : Int), v = Go.Value.int Go.IntKind.i64 x_54 ∧ Go.Sx.CallsV
 Go.Proofs.Try.prog (22 : Nat) #[Go.Value.pointer x_7] w' fun (v : Go.Value) (w' : Go.World) => ∃ (x_55 : Option Go.Addr), ∃ (x_56 : Nat), ∃ (x_57 : Nat), ∃ (x_58 : Bool), v = Go.Value.tuple
 #[Go.Value.slice x_55 x_56 x_57, Go.Value.bool x_58] ∧ Go.Sx.CallsV Go.Proofs.Try.prog (14 : Nat) #[Go.Value.slice Option.none (0 : Nat) (0 : Nat), Go.Value.bool Bool.true] w' fun (v : Go.Value) (w' :
 Go.World) => ∃ (x_59 : Option Go.Addr), ∃ (x_60 : Int), v = Go.Value.tuple #[Go.Value.pointer x_59, Go.Value.int Go.IntKind.i64 x_60] ∧ ∃ (I : Int → Go.World → Prop), ∃ (μ : Int → Go.World → Nat), I (0
 : Int) w' ∧ ∀ (x_61 : Int) (w : Go.World), I x_61 w → bif Decidable.decide (x_61 < (65536 : Int)) then Go.Sx.CallsV Go.Proofs.Try.prog (18 : Nat) #[Go.Value.pointer x_59, Go.Value.slice Option.none (0
 : Nat) (0 : Nat), Go.Value.slice Option.none (0 : Nat) (0 : Nat)] w fun (v : Go.Value) (w' : Go.World) => ∃ (x : Int), v = Go.Value.int Go.IntKind.i64 x ∧ bif !Decidable.decide (x = (0 : Int)) then K
 (Go.Value.bool Bool.false) w' else I (Go.IntKind.wrap Go.IntKind.i64 (x_61 + (1 : Int))) w' ∧ μ (Go.IntKind.wrap Go.IntKind.i64 (x_61 + (1 : Int))) w' < μ x_61 w else Go.Sx.CallsV Go.Proofs.Try.prog
 (18 : Nat) #[Go.Value.pointer x_59, Go.Value.slice Option.none (0 : Nat) (0 : Nat), Go.Value.slice Option.none (0 : Nat) (0 : Nat)] w fun (v : Go.Value) (w' : Go.World) => ∃ (x_62 : Int), v =
 Go.Value.int Go.IntKind.i64 x_62 ∧ Go.Sx.CallsV Go.Proofs.Try.prog (26 : Nat) #[Go.Value.pointer x_59] w' fun (v : Go.Value) (w' : Go.World) => ∃ (x_63 : Int), v = Go.Value.int Go.IntKind.i64 x_63 ∧
 Go.Sx.CallsV Go.Proofs.Try.prog (20 : Nat) #[Go.Value.pointer x_59] w' fun (v : Go.Value) (w' : Go.World) => ∃ (x_64 : Int), v = Go.Value.int Go.IntKind.i64 x_64 ∧ bif Decidable.decide (x = (0 : Int))
 then K (Go.Value.bool Bool.false) (Go.World.drew w') else K (Go.Value.bool Bool.false) (Go.World.drew w')) ∧ ∃ (x_23 : Option Go.Addr), ∃ (x_24 : Nat), ∃ (x_25 : Nat), ∃ (w'_8 : Go.World), Go.Sx.RunsTo
 Go.Proofs.Try.prog (Go.Instr.makeSlice (32 : Nat) (Go.Value.int Go.IntKind.i64 (200 : Int)) (Go.Value.int Go.IntKind.i64 (200 : Int))) w' (Go.Value.slice x_23 x_24 x_25) w'_8 ∧ ∃ (x_26 : Option
 Go.Addr), ∃ (x_27 : Nat), ∃ (x_28 : Nat), ∃ (w' : Go.World), Go.Sx.RunsTo Go.Proofs.Try.prog (Go.Instr.makeSlice (32 : Nat) (Go.Value.int Go.IntKind.i64 (200 : Int)) (Go.Value.int Go.IntKind.i64 (200 :
 Int))) w'_8 (Go.Value.slice x_26 x_27 x_28) w' ∧ Go.Sx.CallsV Go.Proofs.Try.prog (18 : Nat) #[Go.Value.pointer x, Go.Value.slice x_26 x_27 x_28, Go.Value.slice x_23 x_24 x_25] w' fun (v : Go.Value) (w'
 : Go.World) => ∃ (x : Int), v = Go.Value.int Go.IntKind.i64 x ∧ ∃ (x_29 : Option Go.Addr), ∃ (x_30 : Nat), ∃ (x_31 : Nat), ∃ (w'_9 : Go.World), Go.Sx.RunsTo Go.Proofs.Try.prog (Go.Instr.makeSlice (32 :
 Nat) (Go.Value.int Go.IntKind.i64 (16 : Int)) (Go.Value.int Go.IntKind.i64 (16 : Int))) w' (Go.Value.slice x_29 x_30 x_31) w'_9 ∧ ∃ (I : Int → Go.World → Prop), ∃ (μ : Int → Go.World → Nat), I (0 :
 Int) w'_9 ∧ ∀ (x_32 : Int) (w : Go.World), I x_32 w → bif Decidable.decide (x_32 < (↑x_30 : Int)) then Go.Sx.CallsV Go.Proofs.Try.prog (30 : Nat) #[Go.Value.string (ByteArray.mk #[(120 : UInt8)]),
 Go.Value.int Go.IntKind.i64 (65536 : Int)] w fun (v : Go.Value) (w' : Go.World) => ∃ (x : ByteArray), v = Go.Value.string x ∧ Go.Sx.CallsV Go.Proofs.Try.prog (29 : Nat) #[Go.Value.string x] w' fun (v :
 Go.Value) (w' : Go.World) => ∃ (x : Int), ∃ (x_33 : Int), ∃ (x_34 : ByteArray), v = Go.Value.agg #[Go.Value.int Go.IntKind.u8 x, Go.Value.int Go.IntKind.i64 x_33, Go.Value.string x_34] ∧ ∃ (ad :
 Go.Addr), x_29 = Option.some ad ∧ ((0 : Int) ≤ x_32 ∧ x_32 < (↑x_30 : Int)) ∧ Go.Sx.stOK (Go.Addr.add ad (Int.toNat x_32 * (3 : Nat))) (0 : Nat) [Go.Value.int Go.IntKind.u8 x, Go.Value.int
 Go.IntKind.i64 x_33, Go.Value.string x_34] w' ∧ ∀ (w'_10 : Go.World), w'_10 = Go.Sx.setAll (Go.Addr.add ad (Int.toNat x_32 * (3 : Nat))) (0 : Nat) [Go.Value.int Go.IntKind.u8 x, Go.Value.int
 Go.IntKind.i64 x_33, Go.Value.string x_34] w' → I (Go.IntKind.wrap Go.IntKind.i64 (x_32 + (1 : Int))) w'_10 ∧ μ (Go.IntKind.wrap Go.IntKind.i64 (x_32 + (1 : Int))) w'_10 < μ x_32 w else Go.Sx.CallsV
 Go.Proofs.Try.prog (18 : Nat) #[Go.Value.pointer x_7, Go.Value.slice (Option.some (Go.Addr.mk g (0 : Nat) Option.none)) (1 : Nat) (1 : Nat), Go.Value.slice x_29 x_30 x_31] w fun (v : Go.Value) (w' :
 Go.World) => ∃ (x_33 : Int), v = Go.Value.int Go.IntKind.i64 x_33 ∧ bif Decidable.decide (x_33 = (3 : Int)) then Go.Sx.CallsV Go.Proofs.Try.prog (26 : Nat) #[Go.Value.pointer x_7] w' fun (v : Go.Value)
 (w' : Go.World) => ∃ (x_34 : Int), v = Go.Value.int Go.IntKind.i64 x_34 ∧ bif Decidable.decide (x_34 = (0 : Int)) then Go.Sx.CallsV Go.Proofs.Try.prog (24 : Nat) #[Go.Value.pointer x_7] w' fun (v :
 Go.Value) (w' : Go.World) => ∃ (x_35 : Int), v = Go.Value.int Go.IntKind.i64 x_35 ∧ Go.Sx.CallsV Go.Proofs.Try.prog (29 : Nat) #[Go.Value.string (ByteArray.mk #[(105 : UInt8), (110 : UInt8)])] w' fun
 (v : Go.Value) (w' : Go.World) => ∃ (x_36 : Int), ∃ (x_37 : Int), ∃ (x_38 : ByteArray), v = Go.Value.agg #[Go.Value.int Go.IntKind.u8 x_36, Go.Value.int Go.IntKind.i64 x_37, Go.Value.string x_38] ∧ ∀
 (g_3 : Nat) (w'_10 : Go.World), Go.Sx.Fresh w' g_3 w'_10 [Go.Value.int Go.IntKind.u8 x_36, Go.Value.int Go.IntKind.i64 x_37, Go.Value.string x_38] (31 : Nat) → Go.Sx.CallsV Go.Proofs.Try.prog (18 :
 Nat) #[Go.Value.pointer x_7, Go.Value.slice (Option.some (Go.Addr.mk g (0 : Nat) Option.none)) (1 : Nat) (1 : Nat), Go.Value.slice (Option.some (Go.Addr.mk g_3 (0 : Nat) Option.none)) (1 : Nat) (1 :
 Nat)] w'_10 fun (v : Go.Value) (w' : Go.World) => ∃ (x_39 : Int), v = Go.Value.int Go.IntKind.i64 x_39 ∧ Go.Sx.CallsV Go.Proofs.Try.prog (29 : Nat) #[Go.Value.string (ByteArray.mk #[(111 : UInt8), (117
 : UInt8), (116 : UInt8)])] w' fun (v : Go.Value) (w' : Go.World) => ∃ (x_40 : Int), ∃ (x_41 : Int), ∃ (x_42 : ByteArray), v = Go.Value.agg #[Go.Value.int Go.IntKind.u8 x_40, Go.Value.int Go.IntKind.i64
 x_41, Go.Value.string x_42] ∧ ∃ (ad : Go.Addr), Option.some (Go.Addr.mk g_3 (0 : Nat) Option.none) = Option.some ad ∧ ((0 : Int) ≤ (0 : Int) ∧ (0 : Int) < (↑(1 : Nat) : Int)) ∧ Go.Sx.stOK (Go.Addr.add
 ad (Int.toNat (0 : Int) * (3 : Nat))) (0 : Nat) [Go.Value.int Go.IntKind.u8 x_40, Go.Value.int Go.IntKind.i64 x_41, Go.Value.string x_42] w' ∧ ∀ (w'_11 : Go.World), w'_11 = Go.Sx.setAll (Go.Addr.add ad
 (Int.toNat (0 : Int) * (3 : Nat))) (0 : Nat) [Go.Value.int Go.IntKind.u8 x_40, Go.Value.int Go.IntKind.i64 x_41, Go.Value.string x_42] w' → Go.Sx.CallsV Go.Proofs.Try.prog (20 : Nat) #[Go.Value.pointer
 x_7] w'_11 fun (v : Go.Value) (w' : Go.World) => ∃ (x_43 : Int), v = Go.Value.int Go.IntKind.i64 x_43 ∧ Go.Sx.CallsV Go.Proofs.Try.prog (20 : Nat) #[Go.Value.pointer x_7] w' fun (v : Go.Value) (w' :
 Go.World) => ∃ (x_44 : Int), v = Go.Value.int Go.IntKind.i64 x_44 ∧ Go.Sx.CallsV Go.Proofs.Try.prog (22 : Nat) #[Go.Value.pointer x_7] w' fun (v : Go.Value) (w' : Go.World) => ∃ (x_45 : Option
 Go.Addr), ∃ (x_46 : Nat), ∃ (x_47 : Nat), ∃ (x_48 : Bool), v = Go.Value.tuple #[Go.Value.slice x_45 x_46 x_47, Go.Value.bool x_48] ∧ bif !Decidable.decide ((↑x_46 : Int) = (1 : Int)) then K
 (Go.Value.bool Bool.false) w' else Go.Sx.CallsV Go.Proofs.Try.prog (29 : Nat) #[Go.Value.string (ByteArray.mk #[(111 : UInt8), (117 : UInt8), (116 : UInt8)])] w' fun (v : Go.Value) (w' : Go.World) => ∃
 (x_49 : Int), ∃ (x_50 : Int), ∃ (x_51 : ByteArray), v = Go.Value.agg #[Go.Value.int Go.IntKind.u8 x_49, Go.Value.int Go.IntKind.i64 x_50, Go.Value.string x_51] ∧ ∃ (ad : Go.Addr), x_45 = Option.some ad
 ∧ ((0 : Int) ≤ (0 : Int) ∧ (0 : Int) < (↑x_46 : Int)) ∧ Go.Sx.stOK (Go.Addr.add ad (Int.toNat (0 : Int) * (3 : Nat))) (0 : Nat) [Go.Value.int Go.IntKind.u8 x_49, Go.Value.int Go.IntKind.i64 x_50,
 Go.Value.string x_51] w' ∧ ∀ (w'_12 : Go.World), w'_12 = Go.Sx.setAll (Go.Addr.add ad (Int.toNat (0 : Int) * (3 : Nat))) (0 : Nat) [Go.Value.int Go.IntKind.u8 x_49, Go.Value.int Go.IntKind.i64 x_50,
 Go.Value.string x_51] w' → Go.Sx.CallsV Go.Proofs.Try.prog (22 : Nat) #[Go.Value.pointer x_7] w'_12 fun (v : Go.Value) (w' : Go.World) => ∃ (x_52 : Option Go.Addr), ∃ (x_53 : Nat), ∃ (x_54 : Nat), ∃
 (x_55 : Bool), v = Go.Value.tuple #[Go.Value.slice x_52 x_53 x_54, Go.Value.bool x_55] ∧ Go.Sx.CallsV Go.Proofs.Try.prog (24 : Nat) #[Go.Value.pointer x_7] w' fun (v : Go.Value) (w' : Go.World) => ∃
 (x_56 : Int), v = Go.Value.int Go.IntKind.i64 x_56 ∧ Go.Sx.CallsV Go.Proofs.Try.prog (22 : Nat) #[Go.Value.pointer x_7] w' fun (v : Go.Value) (w' : Go.World) => ∃ (x_57 : Option Go.Addr), ∃ (x_58 :
 Nat), ∃ (x_59 : Nat), ∃ (x_60 : Bool), v = Go.Value.tuple #[Go.Value.slice x_57 x_58 x_59, Go.Value.bool x_60] ∧ Go.Sx.CallsV Go.Proofs.Try.prog (14 : Nat) #[Go.Value.slice Option.none (0 : Nat) (0 :
 Nat), Go.Value.bool Bool.true] w' fun (v : Go.Value) (w' : Go.World) => ∃ (x_61 : Option Go.Addr), ∃ (x_62 : Int), v = Go.Value.tuple #[Go.Value.pointer x_61, Go.Value.int Go.IntKind.i64 x_62] ∧ ∃ (I :
 Int → Go.World → Prop), ∃ (μ : Int → Go.World → Nat), I (0 : Int) w' ∧ ∀ (x_63 : Int) (w : Go.World), I x_63 w → bif Decidable.decide (x_63 < (65536 : Int)) then Go.Sx.CallsV Go.Proofs.Try.prog (18 :
 Nat) #[Go.Value.pointer x_61, Go.Value.slice Option.none (0 : Nat) (0 : Nat), Go.Value.slice Option.none (0 : Nat) (0 : Nat)] w fun (v : Go.Value) (w' : Go.World) => ∃ (x : Int), v = Go.Value.int
 Go.IntKind.i64 x ∧ bif !Decidable.decide (x = (0 : Int)) then K (Go.Value.bool Bool.false) w' else I (Go.IntKind.wrap Go.IntKind.i64 (x_63 + (1 : Int))) w' ∧ μ (Go.IntKind.wrap Go.IntKind.i64 (x_63 +
 (1 : Int))) w' < μ x_63 w else Go.Sx.CallsV Go.Proofs.Try.prog (18 : Nat) #[Go.Value.pointer x_61, Go.Value.slice Option.none (0 : Nat) (0 : Nat), Go.Value.slice Option.none (0 : Nat) (0 : Nat)] w fun
 (v : Go.Value) (w' : Go.World) => ∃ (x_64 : Int), v = Go.Value.int Go.IntKind.i64 x_64 ∧ Go.Sx.CallsV Go.Proofs.Try.prog (26 : Nat) #[Go.Value.pointer x_61] w' fun (v : Go.Value) (w' : Go.World) => ∃
 (x_65 : Int), v = Go.Value.int Go.IntKind.i64 x_65 ∧ Go.Sx.CallsV Go.Proofs.Try.prog (20 : Nat) #[Go.Value.pointer x_61] w' fun (v : Go.Value) (w' : Go.World) => ∃ (x_66 : Int), v = Go.Value.int
 Go.IntKind.i64 x_66 ∧ bif Decidable.decide (x = (0 : Int)) then bif Decidable.decide (x_35 = (70 : Int)) then bif Decidable.decide (x_39 = (0 : Int)) then bif Decidable.decide (x_43 = (0 : Int)) then
 bif Decidable.decide (x_44 = (70 : Int)) then bif x_48 then bif !x_55 then bif Decidable.decide (x_56 = (0 : Int)) then bif x_60 then bif Decidable.decide ((↑x_58 : Int) = (1 : Int)) then ∃ (ad :
 Go.Addr), x_57 = Option.some ad ∧ ((0 : Int) ≤ (0 : Int) ∧ (0 : Int) < (↑x_58 : Int)) ∧ ∃ (S : Go.World → Prop), S (Go.World.drew w') ∧ ∃ (x : Int), (∀ (u : Go.World), S u → Go.World.cell? u
 (Go.Addr.add (Go.Addr.add ad (Int.toNat (0 : Int) * (3 : Nat))) (0 : Nat)) = Option.some (Go.Value.int Go.IntKind.u8 x)) ∧ ∃ (x_67 : Int), (∀ (u : Go.World), S u → Go.World.cell? u (Go.Addr.add
 (Go.Addr.add ad (Int.toNat (0 : Int) * (3 : Nat))) ((0 : Nat) + (1 : Nat))) = Option.some (Go.Value.int Go.IntKind.i64 x_67)) ∧ ∃ (x_68 : ByteArray), (∀ (u : Go.World), S u → Go.World.cell? u
 (Go.Addr.add (Go.Addr.add ad (Int.toNat (0 : Int) * (3 : Nat))) ((0 : Nat) + (1 : Nat) + (1 : Nat))) = Option.some (Go.Value.string x_68)) ∧ Go.Sx.CallsV Go.Proofs.Try.prog (29 : Nat) #[Go.Value.string
 (ByteArray.mk #[(105 : UInt8), (110 : UInt8)])] (Go.World.drew w') fun (v : Go.Value) (w' : Go.World) => ∃ (x_69 : Int), ∃ (x_70 : Int), ∃ (x_71 : ByteArray), v = Go.Value.agg #[Go.Value.int
 Go.IntKind.u8 x_69, Go.Value.int Go.IntKind.i64 x_70, Go.Value.string x_71] ∧ S w' ∧ bif Go.Program.stoodInHeld Go.Proofs.Try.prog (31 : Nat) || Go.Program.eqGuardType Go.Proofs.Try.prog
 (Go.Program.depth Go.Proofs.Try.prog) (31 : Nat) || List.any (Array.toList #[Go.Field.mk "Kind" (29 : Nat) (0 : Nat) Bool.false "" "" (0 : Nat), Go.Field.mk "N" (2 : Nat) (1 : Nat) Bool.false "" "" (8
 : Nat), Go.Field.mk "S" (9 : Nat) (2 : Nat) Bool.false "" "" (16 : Nat)]) fun (f : Go.Field) => Go.Field.name f == "_" then False else bif Decidable.decide (x = x_69) && (Decidable.decide (x_67 = x_70)
 && (ByteArray.toList x_68 == ByteArray.toList x_71 && Bool.true)) then bif Decidable.decide (x_64 = (5 : Int)) then bif Decidable.decide (x_65 = (65536 : Int)) then bif Decidable.decide (x_66 = (0 :
 Int)) then Go.Sx.CallsV Go.Proofs.Try.prog (26 : Nat) #[Go.Value.pointer x_61] w' fun (v : Go.Value) (w' : Go.World) => ∃ (x : Int), v = Go.Value.int Go.IntKind.i64 x ∧ S w' ∧ bif Decidable.decide (x =
 (1 : Int)) then Go.Sx.CallsV Go.Proofs.Try.prog (11 : Nat) #[] w' fun (v : Go.Value) (w' : Go.World) => ∃ (x : Bool), v = Go.Value.bool x ∧ S w' ∧ K (Go.Value.bool x) w' else K (Go.Value.bool
 Bool.false) w' else K (Go.Value.bool Bool.false) w' else K (Go.Value.bool Bool.false) w' else K (Go.Value.bool Bool.false) w' else K (Go.Value.bool Bool.false) w' else K (Go.Value.bool Bool.false)
 (Go.World.drew w') else K (Go.Value.bool Bool.false) (Go.World.drew w') else K (Go.Value.bool Bool.false) (Go.World.drew w') else K (Go.Value.bool Bool.false) (Go.World.drew w') else K (Go.Value.bool
 Bool.false) (Go.World.drew w') else K (Go.Value.bool Bool.false) (Go.World.drew w') else K (Go.Value.bool Bool.false) (Go.World.drew w') else K (Go.Value.bool Bool.false) (Go.World.drew w') else K
 (Go.Value.bool Bool.false) (Go.World.drew w') else K (Go.Value.bool Bool.false) (Go.World.drew w') else Go.Sx.CallsV Go.Proofs.Try.prog (29 : Nat) #[Go.Value.string (ByteArray.mk #[(105 : UInt8), (110
 : UInt8)])] w' fun (v : Go.Value) (w' : Go.World) => ∃ (x_35 : Int), ∃ (x_36 : Int), ∃ (x_37 : ByteArray), v = Go.Value.agg #[Go.Value.int Go.IntKind.u8 x_35, Go.Value.int Go.IntKind.i64 x_36,
 Go.Value.string x_37] ∧ ∀ (g_3 : Nat) (w'_10 : Go.World), Go.Sx.Fresh w' g_3 w'_10 [Go.Value.int Go.IntKind.u8 x_35, Go.Value.int Go.IntKind.i64 x_36, Go.Value.string x_37] (31 : Nat) → Go.Sx.CallsV
 Go.Proofs.Try.prog (18 : Nat) #[Go.Value.pointer x_7, Go.Value.slice (Option.some (Go.Addr.mk g (0 : Nat) Option.none)) (1 : Nat) (1 : Nat), Go.Value.slice (Option.some (Go.Addr.mk g_3 (0 : Nat)
 Option.none)) (1 : Nat) (1 : Nat)] w'_10 fun (v : Go.Value) (w' : Go.World) => ∃ (x_38 : Int), v = Go.Value.int Go.IntKind.i64 x_38 ∧ Go.Sx.CallsV Go.Proofs.Try.prog (29 : Nat) #[Go.Value.string
 (ByteArray.mk #[(111 : UInt8), (117 : UInt8), (116 : UInt8)])] w' fun (v : Go.Value) (w' : Go.World) => ∃ (x_39 : Int), ∃ (x_40 : Int), ∃ (x_41 : ByteArray), v = Go.Value.agg #[Go.Value.int
 Go.IntKind.u8 x_39, Go.Value.int Go.IntKind.i64 x_40, Go.Value.string x_41] ∧ ∃ (ad : Go.Addr), Option.some (Go.Addr.mk g_3 (0 : Nat) Option.none) = Option.some ad ∧ ((0 : Int) ≤ (0 : Int) ∧ (0 : Int)
 < (↑(1 : Nat) : Int)) ∧ Go.Sx.stOK (Go.Addr.add ad (Int.toNat (0 : Int) * (3 : Nat))) (0 : Nat) [Go.Value.int Go.IntKind.u8 x_39, Go.Value.int Go.IntKind.i64 x_40, Go.Value.string x_41] w' ∧ ∀ (w'_11 :
 Go.World), w'_11 = Go.Sx.setAll (Go.Addr.add ad (Int.toNat (0 : Int) * (3 : Nat))) (0 : Nat) [Go.Value.int Go.IntKind.u8 x_39, Go.Value.int Go.IntKind.i64 x_40, Go.Value.string x_41] w' → Go.Sx.CallsV
 Go.Proofs.Try.prog (20 : Nat) #[Go.Value.pointer x_7] w'_11 fun (v : Go.Value) (w' : Go.World) => ∃ (x_42 : Int), v = Go.Value.int Go.IntKind.i64 x_42 ∧ Go.Sx.CallsV Go.Proofs.Try.prog (20 : Nat)
 #[Go.Value.pointer x_7] w' fun (v : Go.Value) (w' : Go.World) => ∃ (x_43 : Int), v = Go.Value.int Go.IntKind.i64 x_43 ∧ Go.Sx.CallsV Go.Proofs.Try.prog (22 : Nat) #[Go.Value.pointer x_7] w' fun (v :
 Go.Value) (w' : Go.World) => ∃ (x_44 : Option Go.Addr), ∃ (x_45 : Nat), ∃ (x_46 : Nat), ∃ (x_47 : Bool), v = Go.Value.tuple #[Go.Value.slice x_44 x_45 x_46, Go.Value.bool x_47] ∧ bif !Decidable.decide
 ((↑x_45 : Int) = (1 : Int)) then K (Go.Value.bool Bool.false) w' else Go.Sx.CallsV Go.Proofs.Try.prog (29 : Nat) #[Go.Value.string (ByteArray.mk #[(111 : UInt8), (117 : UInt8), (116 : UInt8)])] w' fun
 (v : Go.Value) (w' : Go.World) => ∃ (x_48 : Int), ∃ (x_49 : Int), ∃ (x_50 : ByteArray), v = Go.Value.agg #[Go.Value.int Go.IntKind.u8 x_48, Go.Value.int Go.IntKind.i64 x_49, Go.Value.string x_50] ∧ ∃
 (ad : Go.Addr), x_44 = Option.some ad ∧ ((0 : Int) ≤ (0 : Int) ∧ (0 : Int) < (↑x_45 : Int)) ∧ Go.Sx.stOK (Go.Addr.add ad (Int.toNat (0 : Int) * (3 : Nat))) (0 : Nat) [Go.Value.int Go.IntKind.u8 x_48,
 Go.Value.int Go.IntKind.i64 x_49, Go.Value.string x_50] w' ∧ ∀ (w'_12 : Go.World), w'_12 = Go.Sx.setAll (Go.Addr.add ad (Int.toNat (0 : Int) * (3 : Nat))) (0 : Nat) [Go.Value.int Go.IntKind.u8 x_48,
 Go.Value.int Go.IntKind.i64 x_49, Go.Value.string x_50] w' → Go.Sx.CallsV Go.Proofs.Try.prog (22 : Nat) #[Go.Value.pointer x_7] w'_12 fun (v : Go.Value) (w' : Go.World) => ∃ (x_51 : Option Go.Addr), ∃
 (x_52 : Nat), ∃ (x_53 : Nat), ∃ (x_54 : Bool), v = Go.Value.tuple #[Go.Value.slice x_51 x_52 x_53, Go.Value.bool x_54] ∧ Go.Sx.CallsV Go.Proofs.Try.prog (24 : Nat) #[Go.Value.pointer x_7] w' fun (v :
 Go.Value) (w' : Go.World) => ∃ (x_55 : Int), v = Go.Value.int Go.IntKind.i64 x_55 ∧ Go.Sx.CallsV Go.Proofs.Try.prog (22 : Nat) #[Go.Value.pointer x_7] w' fun (v : Go.Value) (w' : Go.World) => ∃ (x_56 :
 Option Go.Addr), ∃ (x_57 : Nat), ∃ (x_58 : Nat), ∃ (x_59 : Bool), v = Go.Value.tuple #[Go.Value.slice x_56 x_57 x_58, Go.Value.bool x_59] ∧ Go.Sx.CallsV Go.Proofs.Try.prog (14 : Nat) #[Go.Value.slice
 Option.none (0 : Nat) (0 : Nat), Go.Value.bool Bool.true] w' fun (v : Go.Value) (w' : Go.World) => ∃ (x_60 : Option Go.Addr), ∃ (x_61 : Int), v = Go.Value.tuple #[Go.Value.pointer x_60, Go.Value.int
 Go.IntKind.i64 x_61] ∧ ∃ (I : Int → Go.World → Prop), ∃ (μ : Int → Go.World → Nat), I (0 : Int) w' ∧ ∀ (x_62 : Int) (w : Go.World), I x_62 w → bif Decidable.decide (x_62 < (65536 : Int)) then
 Go.Sx.CallsV Go.Proofs.Try.prog (18 : Nat) #[Go.Value.pointer x_60, Go.Value.slice Option.none (0 : Nat) (0 : Nat), Go.Value.slice Option.none (0 : Nat) (0 : Nat)] w fun (v : Go.Value) (w' : Go.World)
 => ∃ (x : Int), v = Go.Value.int Go.IntKind.i64 x ∧ bif !Decidable.decide (x = (0 : Int)) then K (Go.Value.bool Bool.false) w' else I (Go.IntKind.wrap Go.IntKind.i64 (x_62 + (1 : Int))) w' ∧ μ
 (Go.IntKind.wrap Go.IntKind.i64 (x_62 + (1 : Int))) w' < μ x_62 w else Go.Sx.CallsV Go.Proofs.Try.prog (18 : Nat) #[Go.Value.pointer x_60, Go.Value.slice Option.none (0 : Nat) (0 : Nat), Go.Value.slice
 Option.none (0 : Nat) (0 : Nat)] w fun (v : Go.Value) (w' : Go.World) => ∃ (x_63 : Int), v = Go.Value.int Go.IntKind.i64 x_63 ∧ Go.Sx.CallsV Go.Proofs.Try.prog (26 : Nat) #[Go.Value.pointer x_60] w'
 fun (v : Go.Value) (w' : Go.World) => ∃ (x_64 : Int), v = Go.Value.int Go.IntKind.i64 x_64 ∧ Go.Sx.CallsV Go.Proofs.Try.prog (20 : Nat) #[Go.Value.pointer x_60] w' fun (v : Go.Value) (w' : Go.World) =>
 ∃ (x_65 : Int), v = Go.Value.int Go.IntKind.i64 x_65 ∧ bif Decidable.decide (x = (0 : Int)) then K (Go.Value.bool Bool.false) (Go.World.drew w') else K (Go.Value.bool Bool.false) (Go.World.drew w')
 else Go.Sx.CallsV Go.Proofs.Try.prog (29 : Nat) #[Go.Value.string (ByteArray.mk #[(105 : UInt8), (110 : UInt8)])] w' fun (v : Go.Value) (w' : Go.World) => ∃ (x_34 : Int), ∃ (x_35 : Int), ∃ (x_36 :
 ByteArray), v = Go.Value.agg #[Go.Value.int Go.IntKind.u8 x_34, Go.Value.int Go.IntKind.i64 x_35, Go.Value.string x_36] ∧ ∀ (g_3 : Nat) (w'_10 : Go.World), Go.Sx.Fresh w' g_3 w'_10 [Go.Value.int
 Go.IntKind.u8 x_34, Go.Value.int Go.IntKind.i64 x_35, Go.Value.string x_36] (31 : Nat) → Go.Sx.CallsV Go.Proofs.Try.prog (18 : Nat) #[Go.Value.pointer x_7, Go.Value.slice (Option.some (Go.Addr.mk g (0
 : Nat) Option.none)) (1 : Nat) (1 : Nat), Go.Value.slice (Option.some (Go.Addr.mk g_3 (0 : Nat) Option.none)) (1 : Nat) (1 : Nat)] w'_10 fun (v : Go.Value) (w' : Go.World) => ∃ (x_37 : Int), v =
 Go.Value.int Go.IntKind.i64 x_37 ∧ Go.Sx.CallsV Go.Proofs.Try.prog (29 : Nat) #[Go.Value.string (ByteArray.mk #[(111 : UInt8), (117 : UInt8), (116 : UInt8)])] w' fun (v : Go.Value) (w' : Go.World) => ∃
 (x_38 : Int), ∃ (x_39 : Int), ∃ (x_40 : ByteArray), v = Go.Value.agg #[Go.Value.int Go.IntKind.u8 x_38, Go.Value.int Go.IntKind.i64 x_39, Go.Value.string x_40] ∧ ∃ (ad : Go.Addr), Option.some
 (Go.Addr.mk g_3 (0 : Nat) Option.none) = Option.some ad ∧ ((0 : Int) ≤ (0 : Int) ∧ (0 : Int) < (↑(1 : Nat) : Int)) ∧ Go.Sx.stOK (Go.Addr.add ad (Int.toNat (0 : Int) * (3 : Nat))) (0 : Nat)
 [Go.Value.int Go.IntKind.u8 x_38, Go.Value.int Go.IntKind.i64 x_39, Go.Value.string x_40] w' ∧ ∀ (w'_11 : Go.World), w'_11 = Go.Sx.setAll (Go.Addr.add ad (Int.toNat (0 : Int) * (3 : Nat))) (0 : Nat)
 [Go.Value.int Go.IntKind.u8 x_38, Go.Value.int Go.IntKind.i64 x_39, Go.Value.string x_40] w' → Go.Sx.CallsV Go.Proofs.Try.prog (20 : Nat) #[Go.Value.pointer x_7] w'_11 fun (v : Go.Value) (w' :
 Go.World) => ∃ (x_41 : Int), v = Go.Value.int Go.IntKind.i64 x_41 ∧ Go.Sx.CallsV Go.Proofs.Try.prog (20 : Nat) #[Go.Value.pointer x_7] w' fun (v : Go.Value) (w' : Go.World) => ∃ (x_42 : Int), v =
 Go.Value.int Go.IntKind.i64 x_42 ∧ Go.Sx.CallsV Go.Proofs.Try.prog (22 : Nat) #[Go.Value.pointer x_7] w' fun (v : Go.Value) (w' : Go.World) => ∃ (x_43 : Option Go.Addr), ∃ (x_44 : Nat), ∃ (x_45 : Nat),
 ∃ (x_46 : Bool), v = Go.Value.tuple #[Go.Value.slice x_43 x_44 x_45, Go.Value.bool x_46] ∧ bif !Decidable.decide ((↑x_44 : Int) = (1 : Int)) then K (Go.Value.bool Bool.false) w' else Go.Sx.CallsV
 Go.Proofs.Try.prog (29 : Nat) #[Go.Value.string (ByteArray.mk #[(111 : UInt8), (117 : UInt8), (116 : UInt8)])] w' fun (v : Go.Value) (w' : Go.World) => ∃ (x_47 : Int), ∃ (x_48 : Int), ∃ (x_49 :
 ByteArray), v = Go.Value.agg #[Go.Value.int Go.IntKind.u8 x_47, Go.Value.int Go.IntKind.i64 x_48, Go.Value.string x_49] ∧ ∃ (ad : Go.Addr), x_43 = Option.some ad ∧ ((0 : Int) ≤ (0 : Int) ∧ (0 : Int) <
 (↑x_44 : Int)) ∧ Go.Sx.stOK (Go.Addr.add ad (Int.toNat (0 : Int) * (3 : Nat))) (0 : Nat) [Go.Value.int Go.IntKind.u8 x_47, Go.Value.int Go.IntKind.i64 x_48, Go.Value.string x_49] w' ∧ ∀ (w'_12 :
 Go.World), w'_12 = Go.Sx.setAll (Go.Addr.add ad (Int.toNat (0 : Int) * (3 : Nat))) (0 : Nat) [Go.Value.int Go.IntKind.u8 x_47, Go.Value.int Go.IntKind.i64 x_48, Go.Value.string x_49] w' → Go.Sx.CallsV
 Go.Proofs.Try.prog (22 : Nat) #[Go.Value.pointer x_7] w'_12 fun (v : Go.Value) (w' : Go.World) => ∃ (x_50 : Option Go.Addr), ∃ (x_51 : Nat), ∃ (x_52 : Nat), ∃ (x_53 : Bool), v = Go.Value.tuple
 #[Go.Value.slice x_50 x_51 x_52, Go.Value.bool x_53] ∧ Go.Sx.CallsV Go.Proofs.Try.prog (24 : Nat) #[Go.Value.pointer x_7] w' fun (v : Go.Value) (w' : Go.World) => ∃ (x_54 : Int), v = Go.Value.int
 Go.IntKind.i64 x_54 ∧ Go.Sx.CallsV Go.Proofs.Try.prog (22 : Nat) #[Go.Value.pointer x_7] w' fun (v : Go.Value) (w' : Go.World) => ∃ (x_55 : Option Go.Addr), ∃ (x_56 : Nat), ∃ (x_57 : Nat), ∃ (x_58 :
 Bool), v = Go.Value.tuple #[Go.Value.slice x_55 x_56 x_57, Go.Value.bool x_58] ∧ Go.Sx.CallsV Go.Proofs.Try.prog (14 : Nat) #[Go.Value.slice Option.none (0 : Nat) (0 : Nat), Go.Value.bool Bool.true] w'
 fun (v : Go.Value) (w' : Go.World) => ∃ (x_59 : Option Go.Addr), ∃ (x_60 : Int), v = Go.Value.tuple #[Go.Value.pointer x_59, Go.Value.int Go.IntKind.i64 x_60] ∧ ∃ (I : Int → Go.World → Prop), ∃ (μ :
 Int → Go.World → Nat), I (0 : Int) w' ∧ ∀ (x_61 : Int) (w : Go.World), I x_61 w → bif Decidable.decide (x_61 < (65536 : Int)) then Go.Sx.CallsV Go.Proofs.Try.prog (18 : Nat) #[Go.Value.pointer x_59,
 Go.Value.slice Option.none (0 : Nat) (0 : Nat), Go.Value.slice Option.none (0 : Nat) (0 : Nat)] w fun (v : Go.Value) (w' : Go.World) => ∃ (x : Int), v = Go.Value.int Go.IntKind.i64 x ∧ bif
 !Decidable.decide (x = (0 : Int)) then K (Go.Value.bool Bool.false) w' else I (Go.IntKind.wrap Go.IntKind.i64 (x_61 + (1 : Int))) w' ∧ μ (Go.IntKind.wrap Go.IntKind.i64 (x_61 + (1 : Int))) w' < μ x_61
 w else Go.Sx.CallsV Go.Proofs.Try.prog (18 : Nat) #[Go.Value.pointer x_59, Go.Value.slice Option.none (0 : Nat) (0 : Nat), Go.Value.slice Option.none (0 : Nat) (0 : Nat)] w fun (v : Go.Value) (w' :
 Go.World) => ∃ (x_62 : Int), v = Go.Value.int Go.IntKind.i64 x_62 ∧ Go.Sx.CallsV Go.Proofs.Try.prog (26 : Nat) #[Go.Value.pointer x_59] w' fun (v : Go.Value) (w' : Go.World) => ∃ (x_63 : Int), v =
 Go.Value.int Go.IntKind.i64 x_63 ∧ Go.Sx.CallsV Go.Proofs.Try.prog (20 : Nat) #[Go.Value.pointer x_59] w' fun (v : Go.Value) (w' : Go.World) => ∃ (x_64 : Int), v = Go.Value.int Go.IntKind.i64 x_64 ∧
 bif Decidable.decide (x = (0 : Int)) then K (Go.Value.bool Bool.false) (Go.World.drew w') else K (Go.Value.bool Bool.false) (Go.World.drew w') else (∃ (x : Option Go.Addr), ∃ (x_23 : Nat), ∃ (x_24 :
 Nat), ∃ (w'_8 : Go.World), Go.Sx.RunsTo Go.Proofs.Try.prog (Go.Instr.makeSlice (32 : Nat) (Go.Value.int Go.IntKind.i64 (16 : Int)) (Go.Value.int Go.IntKind.i64 (16 : Int))) w' (Go.Value.slice x x_23
 x_24) w'_8 ∧ ∃ (I : Int → Go.World → Prop), ∃ (μ : Int → Go.World → Nat), I (0 : Int) w'_8 ∧ ∀ (x_25 : Int) (w : Go.World), I x_25 w → bif Decidable.decide (x_25 < (↑x_23 : Int)) then Go.Sx.CallsV
 Go.Proofs.Try.prog (30 : Nat) #[Go.Value.string (ByteArray.mk #[(120 : UInt8)]), Go.Value.int Go.IntKind.i64 (65536 : Int)] w fun (v : Go.Value) (w' : Go.World) => ∃ (x_26 : ByteArray), v =
 Go.Value.string x_26 ∧ Go.Sx.CallsV Go.Proofs.Try.prog (29 : Nat) #[Go.Value.string x_26] w' fun (v : Go.Value) (w' : Go.World) => ∃ (x_27 : Int), ∃ (x_28 : Int), ∃ (x_29 : ByteArray), v = Go.Value.agg
 #[Go.Value.int Go.IntKind.u8 x_27, Go.Value.int Go.IntKind.i64 x_28, Go.Value.string x_29] ∧ ∃ (ad : Go.Addr), x = Option.some ad ∧ ((0 : Int) ≤ x_25 ∧ x_25 < (↑x_23 : Int)) ∧ Go.Sx.stOK (Go.Addr.add
 ad (Int.toNat x_25 * (3 : Nat))) (0 : Nat) [Go.Value.int Go.IntKind.u8 x_27, Go.Value.int Go.IntKind.i64 x_28, Go.Value.string x_29] w' ∧ ∀ (w'_9 : Go.World), w'_9 = Go.Sx.setAll (Go.Addr.add ad
 (Int.toNat x_25 * (3 : Nat))) (0 : Nat) [Go.Value.int Go.IntKind.u8 x_27, Go.Value.int Go.IntKind.i64 x_28, Go.Value.string x_29] w' → I (Go.IntKind.wrap Go.IntKind.i64 (x_25 + (1 : Int))) w'_9 ∧ μ
 (Go.IntKind.wrap Go.IntKind.i64 (x_25 + (1 : Int))) w'_9 < μ x_25 w else Go.Sx.CallsV Go.Proofs.Try.prog (18 : Nat) #[Go.Value.pointer x_7, Go.Value.slice (Option.some (Go.Addr.mk g (0 : Nat)
 Option.none)) (1 : Nat) (1 : Nat), Go.Value.slice x x_23 x_24] w fun (v : Go.Value) (w' : Go.World) => ∃ (x : Int), v = Go.Value.int Go.IntKind.i64 x ∧ bif Decidable.decide (x = (3 : Int)) then
 Go.Sx.CallsV Go.Proofs.Try.prog (26 : Nat) #[Go.Value.pointer x_7] w' fun (v : Go.Value) (w' : Go.World) => ∃ (x : Int), v = Go.Value.int Go.IntKind.i64 x ∧ bif Decidable.decide (x = (0 : Int)) then
 Go.Sx.CallsV Go.Proofs.Try.prog (24 : Nat) #[Go.Value.pointer x_7] w' fun (v : Go.Value) (w' : Go.World) => ∃ (x : Int), v = Go.Value.int Go.IntKind.i64 x ∧ Go.Sx.CallsV Go.Proofs.Try.prog (29 : Nat)
 #[Go.Value.string (ByteArray.mk #[(105 : UInt8), (110 : UInt8)])] w' fun (v : Go.Value) (w' : Go.World) => ∃ (x : Int), ∃ (x_26 : Int), ∃ (x_27 : ByteArray), v = Go.Value.agg #[Go.Value.int
 Go.IntKind.u8 x, Go.Value.int Go.IntKind.i64 x_26, Go.Value.string x_27] ∧ ∀ (g_3 : Nat) (w'_9 : Go.World), Go.Sx.Fresh w' g_3 w'_9 [Go.Value.int Go.IntKind.u8 x, Go.Value.int Go.IntKind.i64 x_26,
 Go.Value.string x_27] (31 : Nat) → Go.Sx.CallsV Go.Proofs.Try.prog (18 : Nat) #[Go.Value.pointer x_7, Go.Value.slice (Option.some (Go.Addr.mk g (0 : Nat) Option.none)) (1 : Nat) (1 : Nat),
 Go.Value.slice (Option.some (Go.Addr.mk g_3 (0 : Nat) Option.none)) (1 : Nat) (1 : Nat)] w'_9 fun (v : Go.Value) (w' : Go.World) => ∃ (x : Int), v = Go.Value.int Go.IntKind.i64 x ∧ Go.Sx.CallsV
 Go.Proofs.Try.prog (29 : Nat) #[Go.Value.string (ByteArray.mk #[(111 : UInt8), (117 : UInt8), (116 : UInt8)])] w' fun (v : Go.Value) (w' : Go.World) => ∃ (x : Int), ∃ (x_28 : Int), ∃ (x_29 :
 ByteArray), v = Go.Value.agg #[Go.Value.int Go.IntKind.u8 x, Go.Value.int Go.IntKind.i64 x_28, Go.Value.string x_29] ∧ ∃ (ad : Go.Addr), Option.some (Go.Addr.mk g_3 (0 : Nat) Option.none) = Option.some
 ad ∧ ((0 : Int) ≤ (0 : Int) ∧ (0 : Int) < (↑(1 : Nat) : Int)) ∧ Go.Sx.stOK (Go.Addr.add ad (Int.toNat (0 : Int) * (3 : Nat))) (0 : Nat) [Go.Value.int Go.IntKind.u8 x, Go.Value.int Go.IntKind.i64 x_28,
 Go.Value.string x_29] w' ∧ ∀ (w'_10 : Go.World), w'_10 = Go.Sx.setAll (Go.Addr.add ad (Int.toNat (0 : Int) * (3 : Nat))) (0 : Nat) [Go.Value.int Go.IntKind.u8 x, Go.Value.int Go.IntKind.i64 x_28,
 Go.Value.string x_29] w' → Go.Sx.CallsV Go.Proofs.Try.prog (20 : Nat) #[Go.Value.pointer x_7] w'_10 fun (v : Go.Value) (w' : Go.World) => ∃ (x : Int), v = Go.Value.int Go.IntKind.i64 x ∧ Go.Sx.CallsV
 Go.Proofs.Try.prog (20 : Nat) #[Go.Value.pointer x_7] w' fun (v : Go.Value) (w' : Go.World) => ∃ (x : Int), v = Go.Value.int Go.IntKind.i64 x ∧ Go.Sx.CallsV Go.Proofs.Try.prog (22 : Nat)
 #[Go.Value.pointer x_7] w' fun (v : Go.Value) (w' : Go.World) => ∃ (x : Option Go.Addr), ∃ (x_30 : Nat), ∃ (x_31 : Nat), ∃ (x_32 : Bool), v = Go.Value.tuple #[Go.Value.slice x x_30 x_31, Go.Value.bool
 x_32] ∧ bif !Decidable.decide ((↑x_30 : Int) = (1 : Int)) then K (Go.Value.bool Bool.false) w' else Go.Sx.CallsV Go.Proofs.Try.prog (29 : Nat) #[Go.Value.string (ByteArray.mk #[(111 : UInt8), (117 :
 UInt8), (116 : UInt8)])] w' fun (v : Go.Value) (w' : Go.World) => ∃ (x_33 : Int), ∃ (x_34 : Int), ∃ (x_35 : ByteArray), v = Go.Value.agg #[Go.Value.int Go.IntKind.u8 x_33, Go.Value.int Go.IntKind.i64
 x_34, Go.Value.string x_35] ∧ ∃ (ad : Go.Addr), x = Option.some ad ∧ ((0 : Int) ≤ (0 : Int) ∧ (0 : Int) < (↑x_30 : Int)) ∧ Go.Sx.stOK (Go.Addr.add ad (Int.toNat (0 : Int) * (3 : Nat))) (0 : Nat)
 [Go.Value.int Go.IntKind.u8 x_33, Go.Value.int Go.IntKind.i64 x_34, Go.Value.string x_35] w' ∧ ∀ (w'_11 : Go.World), w'_11 = Go.Sx.setAll (Go.Addr.add ad (Int.toNat (0 : Int) * (3 : Nat))) (0 : Nat)
 [Go.Value.int Go.IntKind.u8 x_33, Go.Value.int Go.IntKind.i64 x_34, Go.Value.string x_35] w' → Go.Sx.CallsV Go.Proofs.Try.prog (22 : Nat) #[Go.Value.pointer x_7] w'_11 fun (v : Go.Value) (w' :
 Go.World) => ∃ (x : Option Go.Addr), ∃ (x_36 : Nat), ∃ (x_37 : Nat), ∃ (x_38 : Bool), v = Go.Value.tuple #[Go.Value.slice x x_36 x_37, Go.Value.bool x_38] ∧ Go.Sx.CallsV Go.Proofs.Try.prog (24 : Nat)
 #[Go.Value.pointer x_7] w' fun (v : Go.Value) (w' : Go.World) => ∃ (x : Int), v = Go.Value.int Go.IntKind.i64 x ∧ Go.Sx.CallsV Go.Proofs.Try.prog (22 : Nat) #[Go.Value.pointer x_7] w' fun (v :
 Go.Value) (w' : Go.World) => ∃ (x : Option Go.Addr), ∃ (x_39 : Nat), ∃ (x_40 : Nat), ∃ (x_41 : Bool), v = Go.Value.tuple #[Go.Value.slice x x_39 x_40, Go.Value.bool x_41] ∧ Go.Sx.CallsV
 Go.Proofs.Try.prog (14 : Nat) #[Go.Value.slice Option.none (0 : Nat) (0 : Nat), Go.Value.bool Bool.true] w' fun (v : Go.Value) (w' : Go.World) => ∃ (x : Option Go.Addr), ∃ (x_42 : Int), v =
 Go.Value.tuple #[Go.Value.pointer x, Go.Value.int Go.IntKind.i64 x_42] ∧ ∃ (I : Int → Go.World → Prop), ∃ (μ : Int → Go.World → Nat), I (0 : Int) w' ∧ ∀ (x_43 : Int) (w : Go.World), I x_43 w → bif
 Decidable.decide (x_43 < (65536 : Int)) then Go.Sx.CallsV Go.Proofs.Try.prog (18 : Nat) #[Go.Value.pointer x, Go.Value.slice Option.none (0 : Nat) (0 : Nat), Go.Value.slice Option.none (0 : Nat) (0 :
 Nat)] w fun (v : Go.Value) (w' : Go.World) => ∃ (x : Int), v = Go.Value.int Go.IntKind.i64 x ∧ bif !Decidable.decide (x = (0 : Int)) then K (Go.Value.bool Bool.false) w' else I (Go.IntKind.wrap
 Go.IntKind.i64 (x_43 + (1 : Int))) w' ∧ μ (Go.IntKind.wrap Go.IntKind.i64 (x_43 + (1 : Int))) w' < μ x_43 w else Go.Sx.CallsV Go.Proofs.Try.prog (18 : Nat) #[Go.Value.pointer x, Go.Value.slice
 Option.none (0 : Nat) (0 : Nat), Go.Value.slice Option.none (0 : Nat) (0 : Nat)] w fun (v : Go.Value) (w' : Go.World) => ∃ (x_44 : Int), v = Go.Value.int Go.IntKind.i64 x_44 ∧ Go.Sx.CallsV
 Go.Proofs.Try.prog (26 : Nat) #[Go.Value.pointer x] w' fun (v : Go.Value) (w' : Go.World) => ∃ (x_45 : Int), v = Go.Value.int Go.IntKind.i64 x_45 ∧ Go.Sx.CallsV Go.Proofs.Try.prog (20 : Nat)
 #[Go.Value.pointer x] w' fun (v : Go.Value) (w' : Go.World) => ∃ (x : Int), v = Go.Value.int Go.IntKind.i64 x ∧ K (Go.Value.bool Bool.false) (Go.World.drew w') else Go.Sx.CallsV Go.Proofs.Try.prog (29
 : Nat) #[Go.Value.string (ByteArray.mk #[(105 : UInt8), (110 : UInt8)])] w' fun (v : Go.Value) (w' : Go.World) => ∃ (x : Int), ∃ (x_26 : Int), ∃ (x_27 : ByteArray), v = Go.Value.agg #[Go.Value.int
 Go.IntKind.u8 x, Go.Value.int Go.IntKind.i64 x_26, Go.Value.string x_27] ∧ ∀ (g_3 : Nat) (w'_9 : Go.World), Go.Sx.Fresh w' g_3 w'_9 [Go.Value.int Go.IntKind.u8 x, Go.Value.int Go.IntKind.i64 x_26,
 Go.Value.string x_27] (31 : Nat) → Go.Sx.CallsV Go.Proofs.Try.prog (18 : Nat) #[Go.Value.pointer x_7, Go.Value.slice (Option.some (Go.Addr.mk g (0 : Nat) Option.none)) (1 : Nat) (1 : Nat),
 Go.Value.slice (Option.some (Go.Addr.mk g_3 (0 : Nat) Option.none)) (1 : Nat) (1 : Nat)] w'_9 fun (v : Go.Value) (w' : Go.World) => ∃ (x : Int), v = Go.Value.int Go.IntKind.i64 x ∧ Go.Sx.CallsV
 Go.Proofs.Try.prog (29 : Nat) #[Go.Value.string (ByteArray.mk #[(111 : UInt8), (117 : UInt8), (116 : UInt8)])] w' fun (v : Go.Value) (w' : Go.World) => ∃ (x : Int), ∃ (x_28 : Int), ∃ (x_29 :
 ByteArray), v = Go.Value.agg #[Go.Value.int Go.IntKind.u8 x, Go.Value.int Go.IntKind.i64 x_28, Go.Value.string x_29] ∧ ∃ (ad : Go.Addr), Option.some (Go.Addr.mk g_3 (0 : Nat) Option.none) = Option.some
 ad ∧ ((0 : Int) ≤ (0 : Int) ∧ (0 : Int) < (↑(1 : Nat) : Int)) ∧ Go.Sx.stOK (Go.Addr.add ad (Int.toNat (0 : Int) * (3 : Nat))) (0 : Nat) [Go.Value.int Go.IntKind.u8 x, Go.Value.int Go.IntKind.i64 x_28,
 Go.Value.string x_29] w' ∧ ∀ (w'_10 : Go.World), w'_10 = Go.Sx.setAll (Go.Addr.add ad (Int.toNat (0 : Int) * (3 : Nat))) (0 : Nat) [Go.Value.int Go.IntKind.u8 x, Go.Value.int Go.IntKind.i64 x_28,
 Go.Value.string x_29] w' → Go.Sx.CallsV Go.Proofs.Try.prog (20 : Nat) #[Go.Value.pointer x_7] w'_10 fun (v : Go.Value) (w' : Go.World) => ∃ (x : Int), v = Go.Value.int Go.IntKind.i64 x ∧ Go.Sx.CallsV
 Go.Proofs.Try.prog (20 : Nat) #[Go.Value.pointer x_7] w' fun (v : Go.Value) (w' : Go.World) => ∃ (x : Int), v = Go.Value.int Go.IntKind.i64 x ∧ Go.Sx.CallsV Go.Proofs.Try.prog (22 : Nat)
 #[Go.Value.pointer x_7] w' fun (v : Go.Value) (w' : Go.World) => ∃ (x : Option Go.Addr), ∃ (x_30 : Nat), ∃ (x_31 : Nat), ∃ (x_32 : Bool), v = Go.Value.tuple #[Go.Value.slice x x_30 x_31, Go.Value.bool
 x_32] ∧ bif !Decidable.decide ((↑x_30 : Int) = (1 : Int)) then K (Go.Value.bool Bool.false) w' else Go.Sx.CallsV Go.Proofs.Try.prog (29 : Nat) #[Go.Value.string (ByteArray.mk #[(111 : UInt8), (117 :
 UInt8), (116 : UInt8)])] w' fun (v : Go.Value) (w' : Go.World) => ∃ (x_33 : Int), ∃ (x_34 : Int), ∃ (x_35 : ByteArray), v = Go.Value.agg #[Go.Value.int Go.IntKind.u8 x_33, Go.Value.int Go.IntKind.i64
 x_34, Go.Value.string x_35] ∧ ∃ (ad : Go.Addr), x = Option.some ad ∧ ((0 : Int) ≤ (0 : Int) ∧ (0 : Int) < (↑x_30 : Int)) ∧ Go.Sx.stOK (Go.Addr.add ad (Int.toNat (0 : Int) * (3 : Nat))) (0 : Nat)
 [Go.Value.int Go.IntKind.u8 x_33, Go.Value.int Go.IntKind.i64 x_34, Go.Value.string x_35] w' ∧ ∀ (w'_11 : Go.World), w'_11 = Go.Sx.setAll (Go.Addr.add ad (Int.toNat (0 : Int) * (3 : Nat))) (0 : Nat)
 [Go.Value.int Go.IntKind.u8 x_33, Go.Value.int Go.IntKind.i64 x_34, Go.Value.string x_35] w' → Go.Sx.CallsV Go.Proofs.Try.prog (22 : Nat) #[Go.Value.pointer x_7] w'_11 fun (v : Go.Value) (w' :
 Go.World) => ∃ (x : Option Go.Addr), ∃ (x_36 : Nat), ∃ (x_37 : Nat), ∃ (x_38 : Bool), v = Go.Value.tuple #[Go.Value.slice x x_36 x_37, Go.Value.bool x_38] ∧ Go.Sx.CallsV Go.Proofs.Try.prog (24 : Nat)
 #[Go.Value.pointer x_7] w' fun (v : Go.Value) (w' : Go.World) => ∃ (x : Int), v = Go.Value.int Go.IntKind.i64 x ∧ Go.Sx.CallsV Go.Proofs.Try.prog (22 : Nat) #[Go.Value.pointer x_7] w' fun (v :
 Go.Value) (w' : Go.World) => ∃ (x : Option Go.Addr), ∃ (x_39 : Nat), ∃ (x_40 : Nat), ∃ (x_41 : Bool), v = Go.Value.tuple #[Go.Value.slice x x_39 x_40, Go.Value.bool x_41] ∧ Go.Sx.CallsV
 Go.Proofs.Try.prog (14 : Nat) #[Go.Value.slice Option.none (0 : Nat) (0 : Nat), Go.Value.bool Bool.true] w' fun (v : Go.Value) (w' : Go.World) => ∃ (x : Option Go.Addr), ∃ (x_42 : Int), v =
 Go.Value.tuple #[Go.Value.pointer x, Go.Value.int Go.IntKind.i64 x_42] ∧ ∃ (I : Int → Go.World → Prop), ∃ (μ : Int → Go.World → Nat), I (0 : Int) w' ∧ ∀ (x_43 : Int) (w : Go.World), I x_43 w → bif
 Decidable.decide (x_43 < (65536 : Int)) then Go.Sx.CallsV Go.Proofs.Try.prog (18 : Nat) #[Go.Value.pointer x, Go.Value.slice Option.none (0 : Nat) (0 : Nat), Go.Value.slice Option.none (0 : Nat) (0 :
 Nat)] w fun (v : Go.Value) (w' : Go.World) => ∃ (x : Int), v = Go.Value.int Go.IntKind.i64 x ∧ bif !Decidable.decide (x = (0 : Int)) then K (Go.Value.bool Bool.false) w' else I (Go.IntKind.wrap
 Go.IntKind.i64 (x_43 + (1 : Int))) w' ∧ μ (Go.IntKind.wrap Go.IntKind.i64 (x_43 + (1 : Int))) w' < μ x_43 w else Go.Sx.CallsV Go.Proofs.Try.prog (18 : Nat) #[Go.Value.pointer x, Go.Value.slice
 Option.none (0 : Nat) (0 : Nat), Go.Value.slice Option.none (0 : Nat) (0 : Nat)] w fun (v : Go.Value) (w' : Go.World) => ∃ (x_44 : Int), v = Go.Value.int Go.IntKind.i64 x_44 ∧ Go.Sx.CallsV
 Go.Proofs.Try.prog (26 : Nat) #[Go.Value.pointer x] w' fun (v : Go.Value) (w' : Go.World) => ∃ (x_45 : Int), v = Go.Value.int Go.IntKind.i64 x_45 ∧ Go.Sx.CallsV Go.Proofs.Try.prog (20 : Nat)
 #[Go.Value.pointer x] w' fun (v : Go.Value) (w' : Go.World) => ∃ (x : Int), v = Go.Value.int Go.IntKind.i64 x ∧ K (Go.Value.bool Bool.false) (Go.World.drew w') else Go.Sx.CallsV Go.Proofs.Try.prog (29
 : Nat) #[Go.Value.string (ByteArray.mk #[(105 : UInt8), (110 : UInt8)])] w' fun (v : Go.Value) (w' : Go.World) => ∃ (x : Int), ∃ (x_26 : Int), ∃ (x_27 : ByteArray), v = Go.Value.agg #[Go.Value.int
 Go.IntKind.u8 x, Go.Value.int Go.IntKind.i64 x_26, Go.Value.string x_27] ∧ ∀ (g_3 : Nat) (w'_9 : Go.World), Go.Sx.Fresh w' g_3 w'_9 [Go.Value.int Go.IntKind.u8 x, Go.Value.int Go.IntKind.i64 x_26,
 Go.Value.string x_27] (31 : Nat) → Go.Sx.CallsV Go.Proofs.Try.prog (18 : Nat) #[Go.Value.pointer x_7, Go.Value.slice (Option.some (Go.Addr.mk g (0 : Nat) Option.none)) (1 : Nat) (1 : Nat),
 Go.Value.slice (Option.some (Go.Addr.mk g_3 (0 : Nat) Option.none)) (1 : Nat) (1 : Nat)] w'_9 fun (v : Go.Value) (w' : Go.World) => ∃ (x : Int), v = Go.Value.int Go.IntKind.i64 x ∧ Go.Sx.CallsV
 Go.Proofs.Try.prog (29 : Nat) #[Go.Value.string (ByteArray.mk #[(111 : UInt8), (117 : UInt8), (116 : UInt8)])] w' fun (v : Go.Value) (w' : Go.World) => ∃ (x : Int), ∃ (x_28 : Int), ∃ (x_29 :
 ByteArray), v = Go.Value.agg #[Go.Value.int Go.IntKind.u8 x, Go.Value.int Go.IntKind.i64 x_28, Go.Value.string x_29] ∧ ∃ (ad : Go.Addr), Option.some (Go.Addr.mk g_3 (0 : Nat) Option.none) = Option.some
 ad ∧ ((0 : Int) ≤ (0 : Int) ∧ (0 : Int) < (↑(1 : Nat) : Int)) ∧ Go.Sx.stOK (Go.Addr.add ad (Int.toNat (0 : Int) * (3 : Nat))) (0 : Nat) [Go.Value.int Go.IntKind.u8 x, Go.Value.int Go.IntKind.i64 x_28,
 Go.Value.string x_29] w' ∧ ∀ (w'_10 : Go.World), w'_10 = Go.Sx.setAll (Go.Addr.add ad (Int.toNat (0 : Int) * (3 : Nat))) (0 : Nat) [Go.Value.int Go.IntKind.u8 x, Go.Value.int Go.IntKind.i64 x_28,
 Go.Value.string x_29] w' → Go.Sx.CallsV Go.Proofs.Try.prog (20 : Nat) #[Go.Value.pointer x_7] w'_10 fun (v : Go.Value) (w' : Go.World) => ∃ (x : Int), v = Go.Value.int Go.IntKind.i64 x ∧ Go.Sx.CallsV
 Go.Proofs.Try.prog (20 : Nat) #[Go.Value.pointer x_7] w' fun (v : Go.Value) (w' : Go.World) => ∃ (x : Int), v = Go.Value.int Go.IntKind.i64 x ∧ Go.Sx.CallsV Go.Proofs.Try.prog (22 : Nat)
 #[Go.Value.pointer x_7] w' fun (v : Go.Value) (w' : Go.World) => ∃ (x : Option Go.Addr), ∃ (x_30 : Nat), ∃ (x_31 : Nat), ∃ (x_32 : Bool), v = Go.Value.tuple #[Go.Value.slice x x_30 x_31, Go.Value.bool
 x_32] ∧ bif !Decidable.decide ((↑x_30 : Int) = (1 : Int)) then K (Go.Value.bool Bool.false) w' else Go.Sx.CallsV Go.Proofs.Try.prog (29 : Nat) #[Go.Value.string (ByteArray.mk #[(111 : UInt8), (117 :
 UInt8), (116 : UInt8)])] w' fun (v : Go.Value) (w' : Go.World) => ∃ (x_33 : Int), ∃ (x_34 : Int), ∃ (x_35 : ByteArray), v = Go.Value.agg #[Go.Value.int Go.IntKind.u8 x_33, Go.Value.int Go.IntKind.i64
 x_34, Go.Value.string x_35] ∧ ∃ (ad : Go.Addr), x = Option.some ad ∧ ((0 : Int) ≤ (0 : Int) ∧ (0 : Int) < (↑x_30 : Int)) ∧ Go.Sx.stOK (Go.Addr.add ad (Int.toNat (0 : Int) * (3 : Nat))) (0 : Nat)
 [Go.Value.int Go.IntKind.u8 x_33, Go.Value.int Go.IntKind.i64 x_34, Go.Value.string x_35] w' ∧ ∀ (w'_11 : Go.World), w'_11 = Go.Sx.setAll (Go.Addr.add ad (Int.toNat (0 : Int) * (3 : Nat))) (0 : Nat)
 [Go.Value.int Go.IntKind.u8 x_33, Go.Value.int Go.IntKind.i64 x_34, Go.Value.string x_35] w' → Go.Sx.CallsV Go.Proofs.Try.prog (22 : Nat) #[Go.Value.pointer x_7] w'_11 fun (v : Go.Value) (w' :
 Go.World) => ∃ (x : Option Go.Addr), ∃ (x_36 : Nat), ∃ (x_37 : Nat), ∃ (x_38 : Bool), v = Go.Value.tuple #[Go.Value.slice x x_36 x_37, Go.Value.bool x_38] ∧ Go.Sx.CallsV Go.Proofs.Try.prog (24 : Nat)
 #[Go.Value.pointer x_7] w' fun (v : Go.Value) (w' : Go.World) => ∃ (x : Int), v = Go.Value.int Go.IntKind.i64 x ∧ Go.Sx.CallsV Go.Proofs.Try.prog (22 : Nat) #[Go.Value.pointer x_7] w' fun (v :
 Go.Value) (w' : Go.World) => ∃ (x : Option Go.Addr), ∃ (x_39 : Nat), ∃ (x_40 : Nat), ∃ (x_41 : Bool), v = Go.Value.tuple #[Go.Value.slice x x_39 x_40, Go.Value.bool x_41] ∧ Go.Sx.CallsV
 Go.Proofs.Try.prog (14 : Nat) #[Go.Value.slice Option.none (0 : Nat) (0 : Nat), Go.Value.bool Bool.true] w' fun (v : Go.Value) (w' : Go.World) => ∃ (x : Option Go.Addr), ∃ (x_42 : Int), v =
 Go.Value.tuple #[Go.Value.pointer x, Go.Value.int Go.IntKind.i64 x_42] ∧ ∃ (I : Int → Go.World → Prop), ∃ (μ : Int → Go.World → Nat), I (0 : Int) w' ∧ ∀ (x_43 : Int) (w : Go.World), I x_43 w → bif
 Decidable.decide (x_43 < (65536 : Int)) then Go.Sx.CallsV Go.Proofs.Try.prog (18 : Nat) #[Go.Value.pointer x, Go.Value.slice Option.none (0 : Nat) (0 : Nat), Go.Value.slice Option.none (0 : Nat) (0 :
 Nat)] w fun (v : Go.Value) (w' : Go.World) => ∃ (x : Int), v = Go.Value.int Go.IntKind.i64 x ∧ bif !Decidable.decide (x = (0 : Int)) then K (Go.Value.bool Bool.false) w' else I (Go.IntKind.wrap
 Go.IntKind.i64 (x_43 + (1 : Int))) w' ∧ μ (Go.IntKind.wrap Go.IntKind.i64 (x_43 + (1 : Int))) w' < μ x_43 w else Go.Sx.CallsV Go.Proofs.Try.prog (18 : Nat) #[Go.Value.pointer x, Go.Value.slice
 Option.none (0 : Nat) (0 : Nat), Go.Value.slice Option.none (0 : Nat) (0 : Nat)] w fun (v : Go.Value) (w' : Go.World) => ∃ (x_44 : Int), v = Go.Value.int Go.IntKind.i64 x_44 ∧ Go.Sx.CallsV
 Go.Proofs.Try.prog (26 : Nat) #[Go.Value.pointer x] w' fun (v : Go.Value) (w' : Go.World) => ∃ (x_45 : Int), v = Go.Value.int Go.IntKind.i64 x_45 ∧ Go.Sx.CallsV Go.Proofs.Try.prog (20 : Nat)
 #[Go.Value.pointer x] w' fun (v : Go.Value) (w' : Go.World) => ∃ (x : Int), v = Go.Value.int Go.IntKind.i64 x ∧ K (Go.Value.bool Bool.false) (Go.World.drew w')) ∧ ∃ (x : Option Go.Addr), ∃ (x_23 :
 Nat), ∃ (x_24 : Nat), ∃ (w'_8 : Go.World), Go.Sx.RunsTo Go.Proofs.Try.prog (Go.Instr.makeSlice (32 : Nat) (Go.Value.int Go.IntKind.i64 (16 : Int)) (Go.Value.int Go.IntKind.i64 (16 : Int))) w'
 (Go.Value.slice x x_23 x_24) w'_8 ∧ ∃ (I : Int → Go.World → Prop), ∃ (μ : Int → Go.World → Nat), I (0 : Int) w'_8 ∧ ∀ (x_25 : Int) (w : Go.World), I x_25 w → bif Decidable.decide (x_25 < (↑x_23 : Int))
 then Go.Sx.CallsV Go.Proofs.Try.prog (30 : Nat) #[Go.Value.string (ByteArray.mk #[(120 : UInt8)]), Go.Value.int Go.IntKind.i64 (65536 : Int)] w fun (v : Go.Value) (w' : Go.World) => ∃ (x_26 :
 ByteArray), v = Go.Value.string x_26 ∧ Go.Sx.CallsV Go.Proofs.Try.prog (29 : Nat) #[Go.Value.string x_26] w' fun (v : Go.Value) (w' : Go.World) => ∃ (x_27 : Int), ∃ (x_28 : Int), ∃ (x_29 : ByteArray),
 v = Go.Value.agg #[Go.Value.int Go.IntKind.u8 x_27, Go.Value.int Go.IntKind.i64 x_28, Go.Value.string x_29] ∧ ∃ (ad : Go.Addr), x = Option.some ad ∧ ((0 : Int) ≤ x_25 ∧ x_25 < (↑x_23 : Int)) ∧
 Go.Sx.stOK (Go.Addr.add ad (Int.toNat x_25 * (3 : Nat))) (0 : Nat) [Go.Value.int Go.IntKind.u8 x_27, Go.Value.int Go.IntKind.i64 x_28, Go.Value.string x_29] w' ∧ ∀ (w'_9 : Go.World), w'_9 =
 Go.Sx.setAll (Go.Addr.add ad (Int.toNat x_25 * (3 : Nat))) (0 : Nat) [Go.Value.int Go.IntKind.u8 x_27, Go.Value.int Go.IntKind.i64 x_28, Go.Value.string x_29] w' → I (Go.IntKind.wrap Go.IntKind.i64
 (x_25 + (1 : Int))) w'_9 ∧ μ (Go.IntKind.wrap Go.IntKind.i64 (x_25 + (1 : Int))) w'_9 < μ x_25 w else Go.Sx.CallsV Go.Proofs.Try.prog (18 : Nat) #[Go.Value.pointer x_7, Go.Value.slice (Option.some
 (Go.Addr.mk g (0 : Nat) Option.none)) (1 : Nat) (1 : Nat), Go.Value.slice x x_23 x_24] w fun (v : Go.Value) (w' : Go.World) => ∃ (x : Int), v = Go.Value.int Go.IntKind.i64 x ∧ bif Decidable.decide (x =
 (3 : Int)) then Go.Sx.CallsV Go.Proofs.Try.prog (26 : Nat) #[Go.Value.pointer x_7] w' fun (v : Go.Value) (w' : Go.World) => ∃ (x : Int), v = Go.Value.int Go.IntKind.i64 x ∧ bif Decidable.decide (x = (0
 : Int)) then Go.Sx.CallsV Go.Proofs.Try.prog (24 : Nat) #[Go.Value.pointer x_7] w' fun (v : Go.Value) (w' : Go.World) => ∃ (x : Int), v = Go.Value.int Go.IntKind.i64 x ∧ Go.Sx.CallsV Go.Proofs.Try.prog
 (29 : Nat) #[Go.Value.string (ByteArray.mk #[(105 : UInt8), (110 : UInt8)])] w' fun (v : Go.Value) (w' : Go.World) => ∃ (x : Int), ∃ (x_26 : Int), ∃ (x_27 : ByteArray), v = Go.Value.agg #[Go.Value.int
 Go.IntKind.u8 x, Go.Value.int Go.IntKind.i64 x_26, Go.Value.string x_27] ∧ ∀ (g_3 : Nat) (w'_9 : Go.World), Go.Sx.Fresh w' g_3 w'_9 [Go.Value.int Go.IntKind.u8 x, Go.Value.int Go.IntKind.i64 x_26,
 Go.Value.string x_27] (31 : Nat) → Go.Sx.CallsV Go.Proofs.Try.prog (18 : Nat) #[Go.Value.pointer x_7, Go.Value.slice (Option.some (Go.Addr.mk g (0 : Nat) Option.none)) (1 : Nat) (1 : Nat),
 Go.Value.slice (Option.some (Go.Addr.mk g_3 (0 : Nat) Option.none)) (1 : Nat) (1 : Nat)] w'_9 fun (v : Go.Value) (w' : Go.World) => ∃ (x : Int), v = Go.Value.int Go.IntKind.i64 x ∧ Go.Sx.CallsV
 Go.Proofs.Try.prog (29 : Nat) #[Go.Value.string (ByteArray.mk #[(111 : UInt8), (117 : UInt8), (116 : UInt8)])] w' fun (v : Go.Value) (w' : Go.World) => ∃ (x : Int), ∃ (x_28 : Int), ∃ (x_29 :
 ByteArray), v = Go.Value.agg #[Go.Value.int Go.IntKind.u8 x, Go.Value.int Go.IntKind.i64 x_28, Go.Value.string x_29] ∧ ∃ (ad : Go.Addr), Option.some (Go.Addr.mk g_3 (0 : Nat) Option.none) = Option.some
 ad ∧ ((0 : Int) ≤ (0 : Int) ∧ (0 : Int) < (↑(1 : Nat) : Int)) ∧ Go.Sx.stOK (Go.Addr.add ad (Int.toNat (0 : Int) * (3 : Nat))) (0 : Nat) [Go.Value.int Go.IntKind.u8 x, Go.Value.int Go.IntKind.i64 x_28,
 Go.Value.string x_29] w' ∧ ∀ (w'_10 : Go.World), w'_10 = Go.Sx.setAll (Go.Addr.add ad (Int.toNat (0 : Int) * (3 : Nat))) (0 : Nat) [Go.Value.int Go.IntKind.u8 x, Go.Value.int Go.IntKind.i64 x_28,
 Go.Value.string x_29] w' → Go.Sx.CallsV Go.Proofs.Try.prog (20 : Nat) #[Go.Value.pointer x_7] w'_10 fun (v : Go.Value) (w' : Go.World) => ∃ (x : Int), v = Go.Value.int Go.IntKind.i64 x ∧ Go.Sx.CallsV
 Go.Proofs.Try.prog (20 : Nat) #[Go.Value.pointer x_7] w' fun (v : Go.Value) (w' : Go.World) => ∃ (x : Int), v = Go.Value.int Go.IntKind.i64 x ∧ Go.Sx.CallsV Go.Proofs.Try.prog (22 : Nat)
 #[Go.Value.pointer x_7] w' fun (v : Go.Value) (w' : Go.World) => ∃ (x : Option Go.Addr), ∃ (x_30 : Nat), ∃ (x_31 : Nat), ∃ (x_32 : Bool), v = Go.Value.tuple #[Go.Value.slice x x_30 x_31, Go.Value.bool
 x_32] ∧ bif !Decidable.decide ((↑x_30 : Int) = (1 : Int)) then K (Go.Value.bool Bool.false) w' else Go.Sx.CallsV Go.Proofs.Try.prog (29 : Nat) #[Go.Value.string (ByteArray.mk #[(111 : UInt8), (117 :
 UInt8), (116 : UInt8)])] w' fun (v : Go.Value) (w' : Go.World) => ∃ (x_33 : Int), ∃ (x_34 : Int), ∃ (x_35 : ByteArray), v = Go.Value.agg #[Go.Value.int Go.IntKind.u8 x_33, Go.Value.int Go.IntKind.i64
 x_34, Go.Value.string x_35] ∧ ∃ (ad : Go.Addr), x = Option.some ad ∧ ((0 : Int) ≤ (0 : Int) ∧ (0 : Int) < (↑x_30 : Int)) ∧ Go.Sx.stOK (Go.Addr.add ad (Int.toNat (0 : Int) * (3 : Nat))) (0 : Nat)
 [Go.Value.int Go.IntKind.u8 x_33, Go.Value.int Go.IntKind.i64 x_34, Go.Value.string x_35] w' ∧ ∀ (w'_11 : Go.World), w'_11 = Go.Sx.setAll (Go.Addr.add ad (Int.toNat (0 : Int) * (3 : Nat))) (0 : Nat)
 [Go.Value.int Go.IntKind.u8 x_33, Go.Value.int Go.IntKind.i64 x_34, Go.Value.string x_35] w' → Go.Sx.CallsV Go.Proofs.Try.prog (22 : Nat) #[Go.Value.pointer x_7] w'_11 fun (v : Go.Value) (w' :
 Go.World) => ∃ (x : Option Go.Addr), ∃ (x_36 : Nat), ∃ (x_37 : Nat), ∃ (x_38 : Bool), v = Go.Value.tuple #[Go.Value.slice x x_36 x_37, Go.Value.bool x_38] ∧ Go.Sx.CallsV Go.Proofs.Try.prog (24 : Nat)
 #[Go.Value.pointer x_7] w' fun (v : Go.Value) (w' : Go.World) => ∃ (x : Int), v = Go.Value.int Go.IntKind.i64 x ∧ Go.Sx.CallsV Go.Proofs.Try.prog (22 : Nat) #[Go.Value.pointer x_7] w' fun (v :
 Go.Value) (w' : Go.World) => ∃ (x : Option Go.Addr), ∃ (x_39 : Nat), ∃ (x_40 : Nat), ∃ (x_41 : Bool), v = Go.Value.tuple #[Go.Value.slice x x_39 x_40, Go.Value.bool x_41] ∧ Go.Sx.CallsV
 Go.Proofs.Try.prog (14 : Nat) #[Go.Value.slice Option.none (0 : Nat) (0 : Nat), Go.Value.bool Bool.true] w' fun (v : Go.Value) (w' : Go.World) => ∃ (x : Option Go.Addr), ∃ (x_42 : Int), v =
 Go.Value.tuple #[Go.Value.pointer x, Go.Value.int Go.IntKind.i64 x_42] ∧ ∃ (I : Int → Go.World → Prop), ∃ (μ : Int → Go.World → Nat), I (0 : Int) w' ∧ ∀ (x_43 : Int) (w : Go.World), I x_43 w → bif
 Decidable.decide (x_43 < (65536 : Int)) then Go.Sx.CallsV Go.Proofs.Try.prog (18 : Nat) #[Go.Value.pointer x, Go.Value.slice Option.none (0 : Nat) (0 : Nat), Go.Value.slice Option.none (0 : Nat) (0 :
 Nat)] w fun (v : Go.Value) (w' : Go.World) => ∃ (x : Int), v = Go.Value.int Go.IntKind.i64 x ∧ bif !Decidable.decide (x = (0 : Int)) then K (Go.Value.bool Bool.false) w' else I (Go.IntKind.wrap
 Go.IntKind.i64 (x_43 + (1 : Int))) w' ∧ μ (Go.IntKind.wrap Go.IntKind.i64 (x_43 + (1 : Int))) w' < μ x_43 w else Go.Sx.CallsV Go.Proofs.Try.prog (18 : Nat) #[Go.Value.pointer x, Go.Value.slice
 Option.none (0 : Nat) (0 : Nat), Go.Value.slice Option.none (0 : Nat) (0 : Nat)] w fun (v : Go.Value) (w' : Go.World) => ∃ (x_44 : Int), v = Go.Value.int Go.IntKind.i64 x_44 ∧ Go.Sx.CallsV
 Go.Proofs.Try.prog (26 : Nat) #[Go.Value.pointer x] w' fun (v : Go.Value) (w' : Go.World) => ∃ (x_45 : Int), v = Go.Value.int Go.IntKind.i64 x_45 ∧ Go.Sx.CallsV Go.Proofs.Try.prog (20 : Nat)
 #[Go.Value.pointer x] w' fun (v : Go.Value) (w' : Go.World) => ∃ (x : Int), v = Go.Value.int Go.IntKind.i64 x ∧ K (Go.Value.bool Bool.false) (Go.World.drew w') else Go.Sx.CallsV Go.Proofs.Try.prog (29
 : Nat) #[Go.Value.string (ByteArray.mk #[(105 : UInt8), (110 : UInt8)])] w' fun (v : Go.Value) (w' : Go.World) => ∃ (x : Int), ∃ (x_26 : Int), ∃ (x_27 : ByteArray), v = Go.Value.agg #[Go.Value.int
 Go.IntKind.u8 x, Go.Value.int Go.IntKind.i64 x_26, Go.Value.string x_27] ∧ ∀ (g_3 : Nat) (w'_9 : Go.World), Go.Sx.Fresh w' g_3 w'_9 [Go.Value.int Go.IntKind.u8 x, Go.Value.int Go.IntKind.i64 x_26,
 Go.Value.string x_27] (31 : Nat) → Go.Sx.CallsV Go.Proofs.Try.prog (18 : Nat) #[Go.Value.pointer x_7, Go.Value.slice (Option.some (Go.Addr.mk g (0 : Nat) Option.none)) (1 : Nat) (1 : Nat),
 Go.Value.slice (Option.some (Go.Addr.mk g_3 (0 : Nat) Option.none)) (1 : Nat) (1 : Nat)] w'_9 fun (v : Go.Value) (w' : Go.World) => ∃ (x : Int), v = Go.Value.int Go.IntKind.i64 x ∧ Go.Sx.CallsV
 Go.Proofs.Try.prog (29 : Nat) #[Go.Value.string (ByteArray.mk #[(111 : UInt8), (117 : UInt8), (116 : UInt8)])] w' fun (v : Go.Value) (w' : Go.World) => ∃ (x : Int), ∃ (x_28 : Int), ∃ (x_29 :
 ByteArray), v = Go.Value.agg #[Go.Value.int Go.IntKind.u8 x, Go.Value.int Go.IntKind.i64 x_28, Go.Value.string x_29] ∧ ∃ (ad : Go.Addr), Option.some (Go.Addr.mk g_3 (0 : Nat) Option.none) = Option.some
 ad ∧ ((0 : Int) ≤ (0 : Int) ∧ (0 : Int) < (↑(1 : Nat) : Int)) ∧ Go.Sx.stOK (Go.Addr.add ad (Int.toNat (0 : Int) * (3 : Nat))) (0 : Nat) [Go.Value.int Go.IntKind.u8 x, Go.Value.int Go.IntKind.i64 x_28,
 Go.Value.string x_29] w' ∧ ∀ (w'_10 : Go.World), w'_10 = Go.Sx.setAll (Go.Addr.add ad (Int.toNat (0 : Int) * (3 : Nat))) (0 : Nat) [Go.Value.int Go.IntKind.u8 x, Go.Value.int Go.IntKind.i64 x_28,
 Go.Value.string x_29] w' → Go.Sx.CallsV Go.Proofs.Try.prog (20 : Nat) #[Go.Value.pointer x_7] w'_10 fun (v : Go.Value) (w' : Go.World) => ∃ (x : Int), v = Go.Value.int Go.IntKind.i64 x ∧ Go.Sx.CallsV
 Go.Proofs.Try.prog (20 : Nat) #[Go.Value.pointer x_7] w' fun (v : Go.Value) (w' : Go.World) => ∃ (x : Int), v = Go.Value.int Go.IntKind.i64 x ∧ Go.Sx.CallsV Go.Proofs.Try.prog (22 : Nat)
 #[Go.Value.pointer x_7] w' fun (v : Go.Value) (w' : Go.World) => ∃ (x : Option Go.Addr), ∃ (x_30 : Nat), ∃ (x_31 : Nat), ∃ (x_32 : Bool), v = Go.Value.tuple #[Go.Value.slice x x_30 x_31, Go.Value.bool
 x_32] ∧ bif !Decidable.decide ((↑x_30 : Int) = (1 : Int)) then K (Go.Value.bool Bool.false) w' else Go.Sx.CallsV Go.Proofs.Try.prog (29 : Nat) #[Go.Value.string (ByteArray.mk #[(111 : UInt8), (117 :
 UInt8), (116 : UInt8)])] w' fun (v : Go.Value) (w' : Go.World) => ∃ (x_33 : Int), ∃ (x_34 : Int), ∃ (x_35 : ByteArray), v = Go.Value.agg #[Go.Value.int Go.IntKind.u8 x_33, Go.Value.int Go.IntKind.i64
 x_34, Go.Value.string x_35] ∧ ∃ (ad : Go.Addr), x = Option.some ad ∧ ((0 : Int) ≤ (0 : Int) ∧ (0 : Int) < (↑x_30 : Int)) ∧ Go.Sx.stOK (Go.Addr.add ad (Int.toNat (0 : Int) * (3 : Nat))) (0 : Nat)
 [Go.Value.int Go.IntKind.u8 x_33, Go.Value.int Go.IntKind.i64 x_34, Go.Value.string x_35] w' ∧ ∀ (w'_11 : Go.World), w'_11 = Go.Sx.setAll (Go.Addr.add ad (Int.toNat (0 : Int) * (3 : Nat))) (0 : Nat)
 [Go.Value.int Go.IntKind.u8 x_33, Go.Value.int Go.IntKind.i64 x_34, Go.Value.string x_35] w' → Go.Sx.CallsV Go.Proofs.Try.prog (22 : Nat) #[Go.Value.pointer x_7] w'_11 fun (v : Go.Value) (w' :
 Go.World) => ∃ (x : Option Go.Addr), ∃ (x_36 : Nat), ∃ (x_37 : Nat), ∃ (x_38 : Bool), v = Go.Value.tuple #[Go.Value.slice x x_36 x_37, Go.Value.bool x_38] ∧ Go.Sx.CallsV Go.Proofs.Try.prog (24 : Nat)
 #[Go.Value.pointer x_7] w' fun (v : Go.Value) (w' : Go.World) => ∃ (x : Int), v = Go.Value.int Go.IntKind.i64 x ∧ Go.Sx.CallsV Go.Proofs.Try.prog (22 : Nat) #[Go.Value.pointer x_7] w' fun (v :
 Go.Value) (w' : Go.World) => ∃ (x : Option Go.Addr), ∃ (x_39 : Nat), ∃ (x_40 : Nat), ∃ (x_41 : Bool), v = Go.Value.tuple #[Go.Value.slice x x_39 x_40, Go.Value.bool x_41] ∧ Go.Sx.CallsV
 Go.Proofs.Try.prog (14 : Nat) #[Go.Value.slice Option.none (0 : Nat) (0 : Nat), Go.Value.bool Bool.true] w' fun (v : Go.Value) (w' : Go.World) => ∃ (x : Option Go.Addr), ∃ (x_42 : Int), v =
 Go.Value.tuple #[Go.Value.pointer x, Go.Value.int Go.IntKind.i64 x_42] ∧ ∃ (I : Int → Go.World → Prop), ∃ (μ : Int → Go.World → Nat), I (0 : Int) w' ∧ ∀ (x_43 : Int) (w : Go.World), I x_43 w → bif
 Decidable.decide (x_43 < (65536 : Int)) then Go.Sx.CallsV Go.Proofs.Try.prog (18 : Nat) #[Go.Value.pointer x, Go.Value.slice Option.none (0 : Nat) (0 : Nat), Go.Value.slice Option.none (0 : Nat) (0 :
 Nat)] w fun (v : Go.Value) (w' : Go.World) => ∃ (x : Int), v = Go.Value.int Go.IntKind.i64 x ∧ bif !Decidable.decide (x = (0 : Int)) then K (Go.Value.bool Bool.false) w' else I (Go.IntKind.wrap
 Go.IntKind.i64 (x_43 + (1 : Int))) w' ∧ μ (Go.IntKind.wrap Go.IntKind.i64 (x_43 + (1 : Int))) w' < μ x_43 w else Go.Sx.CallsV Go.Proofs.Try.prog (18 : Nat) #[Go.Value.pointer x, Go.Value.slice
 Option.none (0 : Nat) (0 : Nat), Go.Value.slice Option.none (0 : Nat) (0 : Nat)] w fun (v : Go.Value) (w' : Go.World) => ∃ (x_44 : Int), v = Go.Value.int Go.IntKind.i64 x_44 ∧ Go.Sx.CallsV
 Go.Proofs.Try.prog (26 : Nat) #[Go.Value.pointer x] w' fun (v : Go.Value) (w' : Go.World) => ∃ (x_45 : Int), v = Go.Value.int Go.IntKind.i64 x_45 ∧ Go.Sx.CallsV Go.Proofs.Try.prog (20 : Nat)
 #[Go.Value.pointer x] w' fun (v : Go.Value) (w' : Go.World) => ∃ (x : Int), v = Go.Value.int Go.IntKind.i64 x ∧ K (Go.Value.bool Bool.false) (Go.World.drew w') else Go.Sx.CallsV Go.Proofs.Try.prog (29
 : Nat) #[Go.Value.string (ByteArray.mk #[(105 : UInt8), (110 : UInt8)])] w' fun (v : Go.Value) (w' : Go.World) => ∃ (x : Int), ∃ (x_26 : Int), ∃ (x_27 : ByteArray), v = Go.Value.agg #[Go.Value.int
 Go.IntKind.u8 x, Go.Value.int Go.IntKind.i64 x_26, Go.Value.string x_27] ∧ ∀ (g_3 : Nat) (w'_9 : Go.World), Go.Sx.Fresh w' g_3 w'_9 [Go.Value.int Go.IntKind.u8 x, Go.Value.int Go.IntKind.i64 x_26,
 Go.Value.string x_27] (31 : Nat) → Go.Sx.CallsV Go.Proofs.Try.prog (18 : Nat) #[Go.Value.pointer x_7, Go.Value.slice (Option.some (Go.Addr.mk g (0 : Nat) Option.none)) (1 : Nat) (1 : Nat),
 Go.Value.slice (Option.some (Go.Addr.mk g_3 (0 : Nat) Option.none)) (1 : Nat) (1 : Nat)] w'_9 fun (v : Go.Value) (w' : Go.World) => ∃ (x : Int), v = Go.Value.int Go.IntKind.i64 x ∧ Go.Sx.CallsV
 Go.Proofs.Try.prog (29 : Nat) #[Go.Value.string (ByteArray.mk #[(111 : UInt8), (117 : UInt8), (116 : UInt8)])] w' fun (v : Go.Value) (w' : Go.World) => ∃ (x : Int), ∃ (x_28 : Int), ∃ (x_29 :
 ByteArray), v = Go.Value.agg #[Go.Value.int Go.IntKind.u8 x, Go.Value.int Go.IntKind.i64 x_28, Go.Value.string x_29] ∧ ∃ (ad : Go.Addr), Option.some (Go.Addr.mk g_3 (0 : Nat) Option.none) = Option.some
 ad ∧ ((0 : Int) ≤ (0 : Int) ∧ (0 : Int) < (↑(1 : Nat) : Int)) ∧ Go.Sx.stOK (Go.Addr.add ad (Int.toNat (0 : Int) * (3 : Nat))) (0 : Nat) [Go.Value.int Go.IntKind.u8 x, Go.Value.int Go.IntKind.i64 x_28,
 Go.Value.string x_29] w' ∧ ∀ (w'_10 : Go.World), w'_10 = Go.Sx.setAll (Go.Addr.add ad (Int.toNat (0 : Int) * (3 : Nat))) (0 : Nat) [Go.Value.int Go.IntKind.u8 x, Go.Value.int Go.IntKind.i64 x_28,
 Go.Value.string x_29] w' → Go.Sx.CallsV Go.Proofs.Try.prog (20 : Nat) #[Go.Value.pointer x_7] w'_10 fun (v : Go.Value) (w' : Go.World) => ∃ (x : Int), v = Go.Value.int Go.IntKind.i64 x ∧ Go.Sx.CallsV
 Go.Proofs.Try.prog (20 : Nat) #[Go.Value.pointer x_7] w' fun (v : Go.Value) (w' : Go.World) => ∃ (x : Int), v = Go.Value.int Go.IntKind.i64 x ∧ Go.Sx.CallsV Go.Proofs.Try.prog (22 : Nat)
 #[Go.Value.pointer x_7] w' fun (v : Go.Value) (w' : Go.World) => ∃ (x : Option Go.Addr), ∃ (x_30 : Nat), ∃ (x_31 : Nat), ∃ (x_32 : Bool), v = Go.Value.tuple #[Go.Value.slice x x_30 x_31, Go.Value.bool
 x_32] ∧ bif !Decidable.decide ((↑x_30 : Int) = (1 : Int)) then K (Go.Value.bool Bool.false) w' else Go.Sx.CallsV Go.Proofs.Try.prog (29 : Nat) #[Go.Value.string (ByteArray.mk #[(111 : UInt8), (117 :
 UInt8), (116 : UInt8)])] w' fun (v : Go.Value) (w' : Go.World) => ∃ (x_33 : Int), ∃ (x_34 : Int), ∃ (x_35 : ByteArray), v = Go.Value.agg #[Go.Value.int Go.IntKind.u8 x_33, Go.Value.int Go.IntKind.i64
 x_34, Go.Value.string x_35] ∧ ∃ (ad : Go.Addr), x = Option.some ad ∧ ((0 : Int) ≤ (0 : Int) ∧ (0 : Int) < (↑x_30 : Int)) ∧ Go.Sx.stOK (Go.Addr.add ad (Int.toNat (0 : Int) * (3 : Nat))) (0 : Nat)
 [Go.Value.int Go.IntKind.u8 x_33, Go.Value.int Go.IntKind.i64 x_34, Go.Value.string x_35] w' ∧ ∀ (w'_11 : Go.World), w'_11 = Go.Sx.setAll (Go.Addr.add ad (Int.toNat (0 : Int) * (3 : Nat))) (0 : Nat)
 [Go.Value.int Go.IntKind.u8 x_33, Go.Value.int Go.IntKind.i64 x_34, Go.Value.string x_35] w' → Go.Sx.CallsV Go.Proofs.Try.prog (22 : Nat) #[Go.Value.pointer x_7] w'_11 fun (v : Go.Value) (w' :
 Go.World) => ∃ (x : Option Go.Addr), ∃ (x_36 : Nat), ∃ (x_37 : Nat), ∃ (x_38 : Bool), v = Go.Value.tuple #[Go.Value.slice x x_36 x_37, Go.Value.bool x_38] ∧ Go.Sx.CallsV Go.Proofs.Try.prog (24 : Nat)
 #[Go.Value.pointer x_7] w' fun (v : Go.Value) (w' : Go.World) => ∃ (x : Int), v = Go.Value.int Go.IntKind.i64 x ∧ Go.Sx.CallsV Go.Proofs.Try.prog (22 : Nat) #[Go.Value.pointer x_7] w' fun (v :
 Go.Value) (w' : Go.World) => ∃ (x : Option Go.Addr), ∃ (x_39 : Nat), ∃ (x_40 : Nat), ∃ (x_41 : Bool), v = Go.Value.tuple #[Go.Value.slice x x_39 x_40, Go.Value.bool x_41] ∧ Go.Sx.CallsV
 Go.Proofs.Try.prog (14 : Nat) #[Go.Value.slice Option.none (0 : Nat) (0 : Nat), Go.Value.bool Bool.true] w' fun (v : Go.Value) (w' : Go.World) => ∃ (x : Option Go.Addr), ∃ (x_42 : Int), v =
 Go.Value.tuple #[Go.Value.pointer x, Go.Value.int Go.IntKind.i64 x_42] ∧ ∃ (I : Int → Go.World → Prop), ∃ (μ : Int → Go.World → Nat), I (0 : Int) w' ∧ ∀ (x_43 : Int) (w : Go.World), I x_43 w → bif
 Decidable.decide (x_43 < (65536 : Int)) then Go.Sx.CallsV Go.Proofs.Try.prog (18 : Nat) #[Go.Value.pointer x, Go.Value.slice Option.none (0 : Nat) (0 : Nat), Go.Value.slice Option.none (0 : Nat) (0 :
 Nat)] w fun (v : Go.Value) (w' : Go.World) => ∃ (x : Int), v = Go.Value.int Go.IntKind.i64 x ∧ bif !Decidable.decide (x = (0 : Int)) then K (Go.Value.bool Bool.false) w' else I (Go.IntKind.wrap
 Go.IntKind.i64 (x_43 + (1 : Int))) w' ∧ μ (Go.IntKind.wrap Go.IntKind.i64 (x_43 + (1 : Int))) w' < μ x_43 w else Go.Sx.CallsV Go.Proofs.Try.prog (18 : Nat) #[Go.Value.pointer x, Go.Value.slice
 Option.none (0 : Nat) (0 : Nat), Go.Value.slice Option.none (0 : Nat) (0 : Nat)] w fun (v : Go.Value) (w' : Go.World) => ∃ (x_44 : Int), v = Go.Value.int Go.IntKind.i64 x_44 ∧ Go.Sx.CallsV
 Go.Proofs.Try.prog (26 : Nat) #[Go.Value.pointer x] w' fun (v : Go.Value) (w' : Go.World) => ∃ (x_45 : Int), v = Go.Value.int Go.IntKind.i64 x_45 ∧ Go.Sx.CallsV Go.Proofs.Try.prog (20 : Nat)
 #[Go.Value.pointer x] w' fun (v : Go.Value) (w' : Go.World) => ∃ (x : Int), v = Go.Value.int Go.IntKind.i64 x ∧ K (Go.Value.bool Bool.false) (Go.World.drew w') else (∃ (x : Option Go.Addr), ∃ (x_19 :
 Nat), ∃ (x_20 : Nat), ∃ (w'_7 : Go.World), Go.Sx.RunsTo Go.Proofs.Try.prog (Go.Instr.makeSlice (32 : Nat) (Go.Value.int Go.IntKind.i64 (16 : Int)) (Go.Value.int Go.IntKind.i64 (16 : Int))) w'
 (Go.Value.slice x x_19 x_20) w'_7 ∧ ∃ (I : Int → Go.World → Prop), ∃ (μ : Int → Go.World → Nat), I (0 : Int) w'_7 ∧ ∀ (x_21 : Int) (w : Go.World), I x_21 w → bif Decidable.decide (x_21 < (↑x_19 : Int))
 then Go.Sx.CallsV Go.Proofs.Try.prog (30 : Nat) #[Go.Value.string (ByteArray.mk #[(120 : UInt8)]), Go.Value.int Go.IntKind.i64 (65536 : Int)] w fun (v : Go.Value) (w' : Go.World) => ∃ (x_22 :
 ByteArray), v = Go.Value.string x_22 ∧ Go.Sx.CallsV Go.Proofs.Try.prog (29 : Nat) #[Go.Value.string x_22] w' fun (v : Go.Value) (w' : Go.World) => ∃ (x_23 : Int), ∃ (x_24 : Int), ∃ (x_25 : ByteArray),
 v = Go.Value.agg #[Go.Value.int Go.IntKind.u8 x_23, Go.Value.int Go.IntKind.i64 x_24, Go.Value.string x_25] ∧ ∃ (ad : Go.Addr), x = Option.some ad ∧ ((0 : Int) ≤ x_21 ∧ x_21 < (↑x_19 : Int)) ∧
 Go.Sx.stOK (Go.Addr.add ad (Int.toNat x_21 * (3 : Nat))) (0 : Nat) [Go.Value.int Go.IntKind.u8 x_23, Go.Value.int Go.IntKind.i64 x_24, Go.Value.string x_25] w' ∧ ∀ (w'_8 : Go.World), w'_8 =
 Go.Sx.setAll (Go.Addr.add ad (Int.toNat x_21 * (3 : Nat))) (0 : Nat) [Go.Value.int Go.IntKind.u8 x_23, Go.Value.int Go.IntKind.i64 x_24, Go.Value.string x_25] w' → I (Go.IntKind.wrap Go.IntKind.i64
 (x_21 + (1 : Int))) w'_8 ∧ μ (Go.IntKind.wrap Go.IntKind.i64 (x_21 + (1 : Int))) w'_8 < μ x_21 w else Go.Sx.CallsV Go.Proofs.Try.prog (18 : Nat) #[Go.Value.pointer x_7, Go.Value.slice (Option.some
 (Go.Addr.mk g (0 : Nat) Option.none)) (1 : Nat) (1 : Nat), Go.Value.slice x x_19 x_20] w fun (v : Go.Value) (w' : Go.World) => ∃ (x : Int), v = Go.Value.int Go.IntKind.i64 x ∧ bif Decidable.decide (x =
 (3 : Int)) then Go.Sx.CallsV Go.Proofs.Try.prog (26 : Nat) #[Go.Value.pointer x_7] w' fun (v : Go.Value) (w' : Go.World) => ∃ (x : Int), v = Go.Value.int Go.IntKind.i64 x ∧ bif Decidable.decide (x = (0
 : Int)) then Go.Sx.CallsV Go.Proofs.Try.prog (24 : Nat) #[Go.Value.pointer x_7] w' fun (v : Go.Value) (w' : Go.World) => ∃ (x : Int), v = Go.Value.int Go.IntKind.i64 x ∧ Go.Sx.CallsV Go.Proofs.Try.prog
 (29 : Nat) #[Go.Value.string (ByteArray.mk #[(105 : UInt8), (110 : UInt8)])] w' fun (v : Go.Value) (w' : Go.World) => ∃ (x : Int), ∃ (x_22 : Int), ∃ (x_23 : ByteArray), v = Go.Value.agg #[Go.Value.int
 Go.IntKind.u8 x, Go.Value.int Go.IntKind.i64 x_22, Go.Value.string x_23] ∧ ∀ (g_3 : Nat) (w'_8 : Go.World), Go.Sx.Fresh w' g_3 w'_8 [Go.Value.int Go.IntKind.u8 x, Go.Value.int Go.IntKind.i64 x_22,
 Go.Value.string x_23] (31 : Nat) → Go.Sx.CallsV Go.Proofs.Try.prog (18 : Nat) #[Go.Value.pointer x_7, Go.Value.slice (Option.some (Go.Addr.mk g (0 : Nat) Option.none)) (1 : Nat) (1 : Nat),
 Go.Value.slice (Option.some (Go.Addr.mk g_3 (0 : Nat) Option.none)) (1 : Nat) (1 : Nat)] w'_8 fun (v : Go.Value) (w' : Go.World) => ∃ (x : Int), v = Go.Value.int Go.IntKind.i64 x ∧ Go.Sx.CallsV
 Go.Proofs.Try.prog (29 : Nat) #[Go.Value.string (ByteArray.mk #[(111 : UInt8), (117 : UInt8), (116 : UInt8)])] w' fun (v : Go.Value) (w' : Go.World) => ∃ (x : Int), ∃ (x_24 : Int), ∃ (x_25 :
 ByteArray), v = Go.Value.agg #[Go.Value.int Go.IntKind.u8 x, Go.Value.int Go.IntKind.i64 x_24, Go.Value.string x_25] ∧ ∃ (ad : Go.Addr), Option.some (Go.Addr.mk g_3 (0 : Nat) Option.none) = Option.some
 ad ∧ ((0 : Int) ≤ (0 : Int) ∧ (0 : Int) < (↑(1 : Nat) : Int)) ∧ Go.Sx.stOK (Go.Addr.add ad (Int.toNat (0 : Int) * (3 : Nat))) (0 : Nat) [Go.Value.int Go.IntKind.u8 x, Go.Value.int Go.IntKind.i64 x_24,
 Go.Value.string x_25] w' ∧ ∀ (w'_9 : Go.World), w'_9 = Go.Sx.setAll (Go.Addr.add ad (Int.toNat (0 : Int) * (3 : Nat))) (0 : Nat) [Go.Value.int Go.IntKind.u8 x, Go.Value.int Go.IntKind.i64 x_24,
 Go.Value.string x_25] w' → Go.Sx.CallsV Go.Proofs.Try.prog (20 : Nat) #[Go.Value.pointer x_7] w'_9 fun (v : Go.Value) (w' : Go.World) => ∃ (x : Int), v = Go.Value.int Go.IntKind.i64 x ∧ Go.Sx.CallsV
 Go.Proofs.Try.prog (20 : Nat) #[Go.Value.pointer x_7] w' fun (v : Go.Value) (w' : Go.World) => ∃ (x : Int), v = Go.Value.int Go.IntKind.i64 x ∧ Go.Sx.CallsV Go.Proofs.Try.prog (22 : Nat)
 #[Go.Value.pointer x_7] w' fun (v : Go.Value) (w' : Go.World) => ∃ (x : Option Go.Addr), ∃ (x_26 : Nat), ∃ (x_27 : Nat), ∃ (x_28 : Bool), v = Go.Value.tuple #[Go.Value.slice x x_26 x_27, Go.Value.bool
 x_28] ∧ bif !Decidable.decide ((↑x_26 : Int) = (1 : Int)) then K (Go.Value.bool Bool.false) w' else Go.Sx.CallsV Go.Proofs.Try.prog (29 : Nat) #[Go.Value.string (ByteArray.mk #[(111 : UInt8), (117 :
 UInt8), (116 : UInt8)])] w' fun (v : Go.Value) (w' : Go.World) => ∃ (x_29 : Int), ∃ (x_30 : Int), ∃ (x_31 : ByteArray), v = Go.Value.agg #[Go.Value.int Go.IntKind.u8 x_29, Go.Value.int Go.IntKind.i64
 x_30, Go.Value.string x_31] ∧ ∃ (ad : Go.Addr), x = Option.some ad ∧ ((0 : Int) ≤ (0 : Int) ∧ (0 : Int) < (↑x_26 : Int)) ∧ Go.Sx.stOK (Go.Addr.add ad (Int.toNat (0 : Int) * (3 : Nat))) (0 : Nat)
 [Go.Value.int Go.IntKind.u8 x_29, Go.Value.int Go.IntKind.i64 x_30, Go.Value.string x_31] w' ∧ ∀ (w'_10 : Go.World), w'_10 = Go.Sx.setAll (Go.Addr.add ad (Int.toNat (0 : Int) * (3 : Nat))) (0 : Nat)
 [Go.Value.int Go.IntKind.u8 x_29, Go.Value.int Go.IntKind.i64 x_30, Go.Value.string x_31] w' → Go.Sx.CallsV Go.Proofs.Try.prog (22 : Nat) #[Go.Value.pointer x_7] w'_10 fun (v : Go.Value) (w' :
 Go.World) => ∃ (x : Option Go.Addr), ∃ (x_32 : Nat), ∃ (x_33 : Nat), ∃ (x_34 : Bool), v = Go.Value.tuple #[Go.Value.slice x x_32 x_33, Go.Value.bool x_34] ∧ Go.Sx.CallsV Go.Proofs.Try.prog (24 : Nat)
 #[Go.Value.pointer x_7] w' fun (v : Go.Value) (w' : Go.World) => ∃ (x : Int), v = Go.Value.int Go.IntKind.i64 x ∧ Go.Sx.CallsV Go.Proofs.Try.prog (22 : Nat) #[Go.Value.pointer x_7] w' fun (v :
 Go.Value) (w' : Go.World) => ∃ (x : Option Go.Addr), ∃ (x_35 : Nat), ∃ (x_36 : Nat), ∃ (x_37 : Bool), v = Go.Value.tuple #[Go.Value.slice x x_35 x_36, Go.Value.bool x_37] ∧ Go.Sx.CallsV
 Go.Proofs.Try.prog (14 : Nat) #[Go.Value.slice Option.none (0 : Nat) (0 : Nat), Go.Value.bool Bool.true] w' fun (v : Go.Value) (w' : Go.World) => ∃ (x : Option Go.Addr), ∃ (x_38 : Int), v =
 Go.Value.tuple #[Go.Value.pointer x, Go.Value.int Go.IntKind.i64 x_38] ∧ ∃ (I : Int → Go.World → Prop), ∃ (μ : Int → Go.World → Nat), I (0 : Int) w' ∧ ∀ (x_39 : Int) (w : Go.World), I x_39 w → bif
 Decidable.decide (x_39 < (65536 : Int)) then Go.Sx.CallsV Go.Proofs.Try.prog (18 : Nat) #[Go.Value.pointer x, Go.Value.slice Option.none (0 : Nat) (0 : Nat), Go.Value.slice Option.none (0 : Nat) (0 :
 Nat)] w fun (v : Go.Value) (w' : Go.World) => ∃ (x : Int), v = Go.Value.int Go.IntKind.i64 x ∧ bif !Decidable.decide (x = (0 : Int)) then K (Go.Value.bool Bool.false) w' else I (Go.IntKind.wrap
 Go.IntKind.i64 (x_39 + (1 : Int))) w' ∧ μ (Go.IntKind.wrap Go.IntKind.i64 (x_39 + (1 : Int))) w' < μ x_39 w else Go.Sx.CallsV Go.Proofs.Try.prog (18 : Nat) #[Go.Value.pointer x, Go.Value.slice
 Option.none (0 : Nat) (0 : Nat), Go.Value.slice Option.none (0 : Nat) (0 : Nat)] w fun (v : Go.Value) (w' : Go.World) => ∃ (x_40 : Int), v = Go.Value.int Go.IntKind.i64 x_40 ∧ Go.Sx.CallsV
 Go.Proofs.Try.prog (26 : Nat) #[Go.Value.pointer x] w' fun (v : Go.Value) (w' : Go.World) => ∃ (x_41 : Int), v = Go.Value.int Go.IntKind.i64 x_41 ∧ Go.Sx.CallsV Go.Proofs.Try.prog (20 : Nat)
 #[Go.Value.pointer x] w' fun (v : Go.Value) (w' : Go.World) => ∃ (x : Int), v = Go.Value.int Go.IntKind.i64 x ∧ K (Go.Value.bool Bool.false) (Go.World.drew w') else Go.Sx.CallsV Go.Proofs.Try.prog (29
 : Nat) #[Go.Value.string (ByteArray.mk #[(105 : UInt8), (110 : UInt8)])] w' fun (v : Go.Value) (w' : Go.World) => ∃ (x : Int), ∃ (x_22 : Int), ∃ (x_23 : ByteArray), v = Go.Value.agg #[Go.Value.int
 Go.IntKind.u8 x, Go.Value.int Go.IntKind.i64 x_22, Go.Value.string x_23] ∧ ∀ (g_3 : Nat) (w'_8 : Go.World), Go.Sx.Fresh w' g_3 w'_8 [Go.Value.int Go.IntKind.u8 x, Go.Value.int Go.IntKind.i64 x_22,
 Go.Value.string x_23] (31 : Nat) → Go.Sx.CallsV Go.Proofs.Try.prog (18 : Nat) #[Go.Value.pointer x_7, Go.Value.slice (Option.some (Go.Addr.mk g (0 : Nat) Option.none)) (1 : Nat) (1 : Nat),
 Go.Value.slice (Option.some (Go.Addr.mk g_3 (0 : Nat) Option.none)) (1 : Nat) (1 : Nat)] w'_8 fun (v : Go.Value) (w' : Go.World) => ∃ (x : Int), v = Go.Value.int Go.IntKind.i64 x ∧ Go.Sx.CallsV
 Go.Proofs.Try.prog (29 : Nat) #[Go.Value.string (ByteArray.mk #[(111 : UInt8), (117 : UInt8), (116 : UInt8)])] w' fun (v : Go.Value) (w' : Go.World) => ∃ (x : Int), ∃ (x_24 : Int), ∃ (x_25 :
 ByteArray), v = Go.Value.agg #[Go.Value.int Go.IntKind.u8 x, Go.Value.int Go.IntKind.i64 x_24, Go.Value.string x_25] ∧ ∃ (ad : Go.Addr), Option.some (Go.Addr.mk g_3 (0 : Nat) Option.none) = Option.some
 ad ∧ ((0 : Int) ≤ (0 : Int) ∧ (0 : Int) < (↑(1 : Nat) : Int)) ∧ Go.Sx.stOK (Go.Addr.add ad (Int.toNat (0 : Int) * (3 : Nat))) (0 : Nat) [Go.Value.int Go.IntKind.u8 x, Go.Value.int Go.IntKind.i64 x_24,
 Go.Value.string x_25] w' ∧ ∀ (w'_9 : Go.World), w'_9 = Go.Sx.setAll (Go.Addr.add ad (Int.toNat (0 : Int) * (3 : Nat))) (0 : Nat) [Go.Value.int Go.IntKind.u8 x, Go.Value.int Go.IntKind.i64 x_24,
 Go.Value.string x_25] w' → Go.Sx.CallsV Go.Proofs.Try.prog (20 : Nat) #[Go.Value.pointer x_7] w'_9 fun (v : Go.Value) (w' : Go.World) => ∃ (x : Int), v = Go.Value.int Go.IntKind.i64 x ∧ Go.Sx.CallsV
 Go.Proofs.Try.prog (20 : Nat) #[Go.Value.pointer x_7] w' fun (v : Go.Value) (w' : Go.World) => ∃ (x : Int), v = Go.Value.int Go.IntKind.i64 x ∧ Go.Sx.CallsV Go.Proofs.Try.prog (22 : Nat)
 #[Go.Value.pointer x_7] w' fun (v : Go.Value) (w' : Go.World) => ∃ (x : Option Go.Addr), ∃ (x_26 : Nat), ∃ (x_27 : Nat), ∃ (x_28 : Bool), v = Go.Value.tuple #[Go.Value.slice x x_26 x_27, Go.Value.bool
 x_28] ∧ bif !Decidable.decide ((↑x_26 : Int) = (1 : Int)) then K (Go.Value.bool Bool.false) w' else Go.Sx.CallsV Go.Proofs.Try.prog (29 : Nat) #[Go.Value.string (ByteArray.mk #[(111 : UInt8), (117 :
 UInt8), (116 : UInt8)])] w' fun (v : Go.Value) (w' : Go.World) => ∃ (x_29 : Int), ∃ (x_30 : Int), ∃ (x_31 : ByteArray), v = Go.Value.agg #[Go.Value.int Go.IntKind.u8 x_29, Go.Value.int Go.IntKind.i64
 x_30, Go.Value.string x_31] ∧ ∃ (ad : Go.Addr), x = Option.some ad ∧ ((0 : Int) ≤ (0 : Int) ∧ (0 : Int) < (↑x_26 : Int)) ∧ Go.Sx.stOK (Go.Addr.add ad (Int.toNat (0 : Int) * (3 : Nat))) (0 : Nat)
 [Go.Value.int Go.IntKind.u8 x_29, Go.Value.int Go.IntKind.i64 x_30, Go.Value.string x_31] w' ∧ ∀ (w'_10 : Go.World), w'_10 = Go.Sx.setAll (Go.Addr.add ad (Int.toNat (0 : Int) * (3 : Nat))) (0 : Nat)
 [Go.Value.int Go.IntKind.u8 x_29, Go.Value.int Go.IntKind.i64 x_30, Go.Value.string x_31] w' → Go.Sx.CallsV Go.Proofs.Try.prog (22 : Nat) #[Go.Value.pointer x_7] w'_10 fun (v : Go.Value) (w' :
 Go.World) => ∃ (x : Option Go.Addr), ∃ (x_32 : Nat), ∃ (x_33 : Nat), ∃ (x_34 : Bool), v = Go.Value.tuple #[Go.Value.slice x x_32 x_33, Go.Value.bool x_34] ∧ Go.Sx.CallsV Go.Proofs.Try.prog (24 : Nat)
 #[Go.Value.pointer x_7] w' fun (v : Go.Value) (w' : Go.World) => ∃ (x : Int), v = Go.Value.int Go.IntKind.i64 x ∧ Go.Sx.CallsV Go.Proofs.Try.prog (22 : Nat) #[Go.Value.pointer x_7] w' fun (v :
 Go.Value) (w' : Go.World) => ∃ (x : Option Go.Addr), ∃ (x_35 : Nat), ∃ (x_36 : Nat), ∃ (x_37 : Bool), v = Go.Value.tuple #[Go.Value.slice x x_35 x_36, Go.Value.bool x_37] ∧ Go.Sx.CallsV
 Go.Proofs.Try.prog (14 : Nat) #[Go.Value.slice Option.none (0 : Nat) (0 : Nat), Go.Value.bool Bool.true] w' fun (v : Go.Value) (w' : Go.World) => ∃ (x : Option Go.Addr), ∃ (x_38 : Int), v =
 Go.Value.tuple #[Go.Value.pointer x, Go.Value.int Go.IntKind.i64 x_38] ∧ ∃ (I : Int → Go.World → Prop), ∃ (μ : Int → Go.World → Nat), I (0 : Int) w' ∧ ∀ (x_39 : Int) (w : Go.World), I x_39 w → bif
 Decidable.decide (x_39 < (65536 : Int)) then Go.Sx.CallsV Go.Proofs.Try.prog (18 : Nat) #[Go.Value.pointer x, Go.Value.slice Option.none (0 : Nat) (0 : Nat), Go.Value.slice Option.none (0 : Nat) (0 :
 Nat)] w fun (v : Go.Value) (w' : Go.World) => ∃ (x : Int), v = Go.Value.int Go.IntKind.i64 x ∧ bif !Decidable.decide (x = (0 : Int)) then K (Go.Value.bool Bool.false) w' else I (Go.IntKind.wrap
 Go.IntKind.i64 (x_39 + (1 : Int))) w' ∧ μ (Go.IntKind.wrap Go.IntKind.i64 (x_39 + (1 : Int))) w' < μ x_39 w else Go.Sx.CallsV Go.Proofs.Try.prog (18 : Nat) #[Go.Value.pointer x, Go.Value.slice
 Option.none (0 : Nat) (0 : Nat), Go.Value.slice Option.none (0 : Nat) (0 : Nat)] w fun (v : Go.Value) (w' : Go.World) => ∃ (x_40 : Int), v = Go.Value.int Go.IntKind.i64 x_40 ∧ Go.Sx.CallsV
 Go.Proofs.Try.prog (26 : Nat) #[Go.Value.pointer x] w' fun (v : Go.Value) (w' : Go.World) => ∃ (x_41 : Int), v = Go.Value.int Go.IntKind.i64 x_41 ∧ Go.Sx.CallsV Go.Proofs.Try.prog (20 : Nat)
 #[Go.Value.pointer x] w' fun (v : Go.Value) (w' : Go.World) => ∃ (x : Int), v = Go.Value.int Go.IntKind.i64 x ∧ K (Go.Value.bool Bool.false) (Go.World.drew w') else Go.Sx.CallsV Go.Proofs.Try.prog (29
 : Nat) #[Go.Value.string (ByteArray.mk #[(105 : UInt8), (110 : UInt8)])] w' fun (v : Go.Value) (w' : Go.World) => ∃ (x : Int), ∃ (x_22 : Int), ∃ (x_23 : ByteArray), v = Go.Value.agg #[Go.Value.int
 Go.IntKind.u8 x, Go.Value.int Go.IntKind.i64 x_22, Go.Value.string x_23] ∧ ∀ (g_3 : Nat) (w'_8 : Go.World), Go.Sx.Fresh w' g_3 w'_8 [Go.Value.int Go.IntKind.u8 x, Go.Value.int Go.IntKind.i64 x_22,
 Go.Value.string x_23] (31 : Nat) → Go.Sx.CallsV Go.Proofs.Try.prog (18 : Nat) #[Go.Value.pointer x_7, Go.Value.slice (Option.some (Go.Addr.mk g (0 : Nat) Option.none)) (1 : Nat) (1 : Nat),
 Go.Value.slice (Option.some (Go.Addr.mk g_3 (0 : Nat) Option.none)) (1 : Nat) (1 : Nat)] w'_8 fun (v : Go.Value) (w' : Go.World) => ∃ (x : Int), v = Go.Value.int Go.IntKind.i64 x ∧ Go.Sx.CallsV
 Go.Proofs.Try.prog (29 : Nat) #[Go.Value.string (ByteArray.mk #[(111 : UInt8), (117 : UInt8), (116 : UInt8)])] w' fun (v : Go.Value) (w' : Go.World) => ∃ (x : Int), ∃ (x_24 : Int), ∃ (x_25 :
 ByteArray), v = Go.Value.agg #[Go.Value.int Go.IntKind.u8 x, Go.Value.int Go.IntKind.i64 x_24, Go.Value.string x_25] ∧ ∃ (ad : Go.Addr), Option.some (Go.Addr.mk g_3 (0 : Nat) Option.none) = Option.some
 ad ∧ ((0 : Int) ≤ (0 : Int) ∧ (0 : Int) < (↑(1 : Nat) : Int)) ∧ Go.Sx.stOK (Go.Addr.add ad (Int.toNat (0 : Int) * (3 : Nat))) (0 : Nat) [Go.Value.int Go.IntKind.u8 x, Go.Value.int Go.IntKind.i64 x_24,
 Go.Value.string x_25] w' ∧ ∀ (w'_9 : Go.World), w'_9 = Go.Sx.setAll (Go.Addr.add ad (Int.toNat (0 : Int) * (3 : Nat))) (0 : Nat) [Go.Value.int Go.IntKind.u8 x, Go.Value.int Go.IntKind.i64 x_24,
 Go.Value.string x_25] w' → Go.Sx.CallsV Go.Proofs.Try.prog (20 : Nat) #[Go.Value.pointer x_7] w'_9 fun (v : Go.Value) (w' : Go.World) => ∃ (x : Int), v = Go.Value.int Go.IntKind.i64 x ∧ Go.Sx.CallsV
 Go.Proofs.Try.prog (20 : Nat) #[Go.Value.pointer x_7] w' fun (v : Go.Value) (w' : Go.World) => ∃ (x : Int), v = Go.Value.int Go.IntKind.i64 x ∧ Go.Sx.CallsV Go.Proofs.Try.prog (22 : Nat)
 #[Go.Value.pointer x_7] w' fun (v : Go.Value) (w' : Go.World) => ∃ (x : Option Go.Addr), ∃ (x_26 : Nat), ∃ (x_27 : Nat), ∃ (x_28 : Bool), v = Go.Value.tuple #[Go.Value.slice x x_26 x_27, Go.Value.bool
 x_28] ∧ bif !Decidable.decide ((↑x_26 : Int) = (1 : Int)) then K (Go.Value.bool Bool.false) w' else Go.Sx.CallsV Go.Proofs.Try.prog (29 : Nat) #[Go.Value.string (ByteArray.mk #[(111 : UInt8), (117 :
 UInt8), (116 : UInt8)])] w' fun (v : Go.Value) (w' : Go.World) => ∃ (x_29 : Int), ∃ (x_30 : Int), ∃ (x_31 : ByteArray), v = Go.Value.agg #[Go.Value.int Go.IntKind.u8 x_29, Go.Value.int Go.IntKind.i64
 x_30, Go.Value.string x_31] ∧ ∃ (ad : Go.Addr), x = Option.some ad ∧ ((0 : Int) ≤ (0 : Int) ∧ (0 : Int) < (↑x_26 : Int)) ∧ Go.Sx.stOK (Go.Addr.add ad (Int.toNat (0 : Int) * (3 : Nat))) (0 : Nat)
 [Go.Value.int Go.IntKind.u8 x_29, Go.Value.int Go.IntKind.i64 x_30, Go.Value.string x_31] w' ∧ ∀ (w'_10 : Go.World), w'_10 = Go.Sx.setAll (Go.Addr.add ad (Int.toNat (0 : Int) * (3 : Nat))) (0 : Nat)
 [Go.Value.int Go.IntKind.u8 x_29, Go.Value.int Go.IntKind.i64 x_30, Go.Value.string x_31] w' → Go.Sx.CallsV Go.Proofs.Try.prog (22 : Nat) #[Go.Value.pointer x_7] w'_10 fun (v : Go.Value) (w' :
 Go.World) => ∃ (x : Option Go.Addr), ∃ (x_32 : Nat), ∃ (x_33 : Nat), ∃ (x_34 : Bool), v = Go.Value.tuple #[Go.Value.slice x x_32 x_33, Go.Value.bool x_34] ∧ Go.Sx.CallsV Go.Proofs.Try.prog (24 : Nat)
 #[Go.Value.pointer x_7] w' fun (v : Go.Value) (w' : Go.World) => ∃ (x : Int), v = Go.Value.int Go.IntKind.i64 x ∧ Go.Sx.CallsV Go.Proofs.Try.prog (22 : Nat) #[Go.Value.pointer x_7] w' fun (v :
 Go.Value) (w' : Go.World) => ∃ (x : Option Go.Addr), ∃ (x_35 : Nat), ∃ (x_36 : Nat), ∃ (x_37 : Bool), v = Go.Value.tuple #[Go.Value.slice x x_35 x_36, Go.Value.bool x_37] ∧ Go.Sx.CallsV
 Go.Proofs.Try.prog (14 : Nat) #[Go.Value.slice Option.none (0 : Nat) (0 : Nat), Go.Value.bool Bool.true] w' fun (v : Go.Value) (w' : Go.World) => ∃ (x : Option Go.Addr), ∃ (x_38 : Int), v =
 Go.Value.tuple #[Go.Value.pointer x, Go.Value.int Go.IntKind.i64 x_38] ∧ ∃ (I : Int → Go.World → Prop), ∃ (μ : Int → Go.World → Nat), I (0 : Int) w' ∧ ∀ (x_39 : Int) (w : Go.World), I x_39 w → bif
 Decidable.decide (x_39 < (65536 : Int)) then Go.Sx.CallsV Go.Proofs.Try.prog (18 : Nat) #[Go.Value.pointer x, Go.Value.slice Option.none (0 : Nat) (0 : Nat), Go.Value.slice Option.none (0 : Nat) (0 :
 Nat)] w fun (v : Go.Value) (w' : Go.World) => ∃ (x : Int), v = Go.Value.int Go.IntKind.i64 x ∧ bif !Decidable.decide (x = (0 : Int)) then K (Go.Value.bool Bool.false) w' else I (Go.IntKind.wrap
 Go.IntKind.i64 (x_39 + (1 : Int))) w' ∧ μ (Go.IntKind.wrap Go.IntKind.i64 (x_39 + (1 : Int))) w' < μ x_39 w else Go.Sx.CallsV Go.Proofs.Try.prog (18 : Nat) #[Go.Value.pointer x, Go.Value.slice
 Option.none (0 : Nat) (0 : Nat), Go.Value.slice Option.none (0 : Nat) (0 : Nat)] w fun (v : Go.Value) (w' : Go.World) => ∃ (x_40 : Int), v = Go.Value.int Go.IntKind.i64 x_40 ∧ Go.Sx.CallsV
 Go.Proofs.Try.prog (26 : Nat) #[Go.Value.pointer x] w' fun (v : Go.Value) (w' : Go.World) => ∃ (x_41 : Int), v = Go.Value.int Go.IntKind.i64 x_41 ∧ Go.Sx.CallsV Go.Proofs.Try.prog (20 : Nat)
 #[Go.Value.pointer x] w' fun (v : Go.Value) (w' : Go.World) => ∃ (x : Int), v = Go.Value.int Go.IntKind.i64 x ∧ K (Go.Value.bool Bool.false) (Go.World.drew w')) ∧ ∃ (x : Option Go.Addr), ∃ (x_19 :
 Nat), ∃ (x_20 : Nat), ∃ (w'_7 : Go.World), Go.Sx.RunsTo Go.Proofs.Try.prog (Go.Instr.makeSlice (32 : Nat) (Go.Value.int Go.IntKind.i64 (16 : Int)) (Go.Value.int Go.IntKind.i64 (16 : Int))) w'
 (Go.Value.slice x x_19 x_20) w'_7 ∧ ∃ (I : Int → Go.World → Prop), ∃ (μ : Int → Go.World → Nat), I (0 : Int) w'_7 ∧ ∀ (x_21 : Int) (w : Go.World), I x_21 w → bif Decidable.decide (x_21 < (↑x_19 : Int))
 then Go.Sx.CallsV Go.Proofs.Try.prog (30 : Nat) #[Go.Value.string (ByteArray.mk #[(120 : UInt8)]), Go.Value.int Go.IntKind.i64 (65536 : Int)] w fun (v : Go.Value) (w' : Go.World) => ∃ (x_22 :
 ByteArray), v = Go.Value.string x_22 ∧ Go.Sx.CallsV Go.Proofs.Try.prog (29 : Nat) #[Go.Value.string x_22] w' fun (v : Go.Value) (w' : Go.World) => ∃ (x_23 : Int), ∃ (x_24 : Int), ∃ (x_25 : ByteArray),
 v = Go.Value.agg #[Go.Value.int Go.IntKind.u8 x_23, Go.Value.int Go.IntKind.i64 x_24, Go.Value.string x_25] ∧ ∃ (ad : Go.Addr), x = Option.some ad ∧ ((0 : Int) ≤ x_21 ∧ x_21 < (↑x_19 : Int)) ∧
 Go.Sx.stOK (Go.Addr.add ad (Int.toNat x_21 * (3 : Nat))) (0 : Nat) [Go.Value.int Go.IntKind.u8 x_23, Go.Value.int Go.IntKind.i64 x_24, Go.Value.string x_25] w' ∧ ∀ (w'_8 : Go.World), w'_8 =
 Go.Sx.setAll (Go.Addr.add ad (Int.toNat x_21 * (3 : Nat))) (0 : Nat) [Go.Value.int Go.IntKind.u8 x_23, Go.Value.int Go.IntKind.i64 x_24, Go.Value.string x_25] w' → I (Go.IntKind.wrap Go.IntKind.i64
 (x_21 + (1 : Int))) w'_8 ∧ μ (Go.IntKind.wrap Go.IntKind.i64 (x_21 + (1 : Int))) w'_8 < μ x_21 w else Go.Sx.CallsV Go.Proofs.Try.prog (18 : Nat) #[Go.Value.pointer x_7, Go.Value.slice (Option.some
 (Go.Addr.mk g (0 : Nat) Option.none)) (1 : Nat) (1 : Nat), Go.Value.slice x x_19 x_20] w fun (v : Go.Value) (w' : Go.World) => ∃ (x : Int), v = Go.Value.int Go.IntKind.i64 x ∧ bif Decidable.decide (x =
 (3 : Int)) then Go.Sx.CallsV Go.Proofs.Try.prog (26 : Nat) #[Go.Value.pointer x_7] w' fun (v : Go.Value) (w' : Go.World) => ∃ (x : Int), v = Go.Value.int Go.IntKind.i64 x ∧ bif Decidable.decide (x = (0
 : Int)) then Go.Sx.CallsV Go.Proofs.Try.prog (24 : Nat) #[Go.Value.pointer x_7] w' fun (v : Go.Value) (w' : Go.World) => ∃ (x : Int), v = Go.Value.int Go.IntKind.i64 x ∧ Go.Sx.CallsV Go.Proofs.Try.prog
 (29 : Nat) #[Go.Value.string (ByteArray.mk #[(105 : UInt8), (110 : UInt8)])] w' fun (v : Go.Value) (w' : Go.World) => ∃ (x : Int), ∃ (x_22 : Int), ∃ (x_23 : ByteArray), v = Go.Value.agg #[Go.Value.int
 Go.IntKind.u8 x, Go.Value.int Go.IntKind.i64 x_22, Go.Value.string x_23] ∧ ∀ (g_3 : Nat) (w'_8 : Go.World), Go.Sx.Fresh w' g_3 w'_8 [Go.Value.int Go.IntKind.u8 x, Go.Value.int Go.IntKind.i64 x_22,
 Go.Value.string x_23] (31 : Nat) → Go.Sx.CallsV Go.Proofs.Try.prog (18 : Nat) #[Go.Value.pointer x_7, Go.Value.slice (Option.some (Go.Addr.mk g (0 : Nat) Option.none)) (1 : Nat) (1 : Nat),
 Go.Value.slice (Option.some (Go.Addr.mk g_3 (0 : Nat) Option.none)) (1 : Nat) (1 : Nat)] w'_8 fun (v : Go.Value) (w' : Go.World) => ∃ (x : Int), v = Go.Value.int Go.IntKind.i64 x ∧ Go.Sx.CallsV
 Go.Proofs.Try.prog (29 : Nat) #[Go.Value.string (ByteArray.mk #[(111 : UInt8), (117 : UInt8), (116 : UInt8)])] w' fun (v : Go.Value) (w' : Go.World) => ∃ (x : Int), ∃ (x_24 : Int), ∃ (x_25 :
 ByteArray), v = Go.Value.agg #[Go.Value.int Go.IntKind.u8 x, Go.Value.int Go.IntKind.i64 x_24, Go.Value.string x_25] ∧ ∃ (ad : Go.Addr), Option.some (Go.Addr.mk g_3 (0 : Nat) Option.none) = Option.some
 ad ∧ ((0 : Int) ≤ (0 : Int) ∧ (0 : Int) < (↑(1 : Nat) : Int)) ∧ Go.Sx.stOK (Go.Addr.add ad (Int.toNat (0 : Int) * (3 : Nat))) (0 : Nat) [Go.Value.int Go.IntKind.u8 x, Go.Value.int Go.IntKind.i64 x_24,
 Go.Value.string x_25] w' ∧ ∀ (w'_9 : Go.World), w'_9 = Go.Sx.setAll (Go.Addr.add ad (Int.toNat (0 : Int) * (3 : Nat))) (0 : Nat) [Go.Value.int Go.IntKind.u8 x, Go.Value.int Go.IntKind.i64 x_24,
 Go.Value.string x_25] w' → Go.Sx.CallsV Go.Proofs.Try.prog (20 : Nat) #[Go.Value.pointer x_7] w'_9 fun (v : Go.Value) (w' : Go.World) => ∃ (x : Int), v = Go.Value.int Go.IntKind.i64 x ∧ Go.Sx.CallsV
 Go.Proofs.Try.prog (20 : Nat) #[Go.Value.pointer x_7] w' fun (v : Go.Value) (w' : Go.World) => ∃ (x : Int), v = Go.Value.int Go.IntKind.i64 x ∧ Go.Sx.CallsV Go.Proofs.Try.prog (22 : Nat)
 #[Go.Value.pointer x_7] w' fun (v : Go.Value) (w' : Go.World) => ∃ (x : Option Go.Addr), ∃ (x_26 : Nat), ∃ (x_27 : Nat), ∃ (x_28 : Bool), v = Go.Value.tuple #[Go.Value.slice x x_26 x_27, Go.Value.bool
 x_28] ∧ bif !Decidable.decide ((↑x_26 : Int) = (1 : Int)) then K (Go.Value.bool Bool.false) w' else Go.Sx.CallsV Go.Proofs.Try.prog (29 : Nat) #[Go.Value.string (ByteArray.mk #[(111 : UInt8), (117 :
 UInt8), (116 : UInt8)])] w' fun (v : Go.Value) (w' : Go.World) => ∃ (x_29 : Int), ∃ (x_30 : Int), ∃ (x_31 : ByteArray), v = Go.Value.agg #[Go.Value.int Go.IntKind.u8 x_29, Go.Value.int Go.IntKind.i64
 x_30, Go.Value.string x_31] ∧ ∃ (ad : Go.Addr), x = Option.some ad ∧ ((0 : Int) ≤ (0 : Int) ∧ (0 : Int) < (↑x_26 : Int)) ∧ Go.Sx.stOK (Go.Addr.add ad (Int.toNat (0 : Int) * (3 : Nat))) (0 : Nat)
 [Go.Value.int Go.IntKind.u8 x_29, Go.Value.int Go.IntKind.i64 x_30, Go.Value.string x_31] w' ∧ ∀ (w'_10 : Go.World), w'_10 = Go.Sx.setAll (Go.Addr.add ad (Int.toNat (0 : Int) * (3 : Nat))) (0 : Nat)
 [Go.Value.int Go.IntKind.u8 x_29, Go.Value.int Go.IntKind.i64 x_30, Go.Value.string x_31] w' → Go.Sx.CallsV Go.Proofs.Try.prog (22 : Nat) #[Go.Value.pointer x_7] w'_10 fun (v : Go.Value) (w' :
 Go.World) => ∃ (x : Option Go.Addr), ∃ (x_32 : Nat), ∃ (x_33 : Nat), ∃ (x_34 : Bool), v = Go.Value.tuple #[Go.Value.slice x x_32 x_33, Go.Value.bool x_34] ∧ Go.Sx.CallsV Go.Proofs.Try.prog (24 : Nat)
 #[Go.Value.pointer x_7] w' fun (v : Go.Value) (w' : Go.World) => ∃ (x : Int), v = Go.Value.int Go.IntKind.i64 x ∧ Go.Sx.CallsV Go.Proofs.Try.prog (22 : Nat) #[Go.Value.pointer x_7] w' fun (v :
 Go.Value) (w' : Go.World) => ∃ (x : Option Go.Addr), ∃ (x_35 : Nat), ∃ (x_36 : Nat), ∃ (x_37 : Bool), v = Go.Value.tuple #[Go.Value.slice x x_35 x_36, Go.Value.bool x_37] ∧ Go.Sx.CallsV
 Go.Proofs.Try.prog (14 : Nat) #[Go.Value.slice Option.none (0 : Nat) (0 : Nat), Go.Value.bool Bool.true] w' fun (v : Go.Value) (w' : Go.World) => ∃ (x : Option Go.Addr), ∃ (x_38 : Int), v =
 Go.Value.tuple #[Go.Value.pointer x, Go.Value.int Go.IntKind.i64 x_38] ∧ ∃ (I : Int → Go.World → Prop), ∃ (μ : Int → Go.World → Nat), I (0 : Int) w' ∧ ∀ (x_39 : Int) (w : Go.World), I x_39 w → bif
 Decidable.decide (x_39 < (65536 : Int)) then Go.Sx.CallsV Go.Proofs.Try.prog (18 : Nat) #[Go.Value.pointer x, Go.Value.slice Option.none (0 : Nat) (0 : Nat), Go.Value.slice Option.none (0 : Nat) (0 :
 Nat)] w fun (v : Go.Value) (w' : Go.World) => ∃ (x : Int), v = Go.Value.int Go.IntKind.i64 x ∧ bif !Decidable.decide (x = (0 : Int)) then K (Go.Value.bool Bool.false) w' else I (Go.IntKind.wrap
 Go.IntKind.i64 (x_39 + (1 : Int))) w' ∧ μ (Go.IntKind.wrap Go.IntKind.i64 (x_39 + (1 : Int))) w' < μ x_39 w else Go.Sx.CallsV Go.Proofs.Try.prog (18 : Nat) #[Go.Value.pointer x, Go.Value.slice
 Option.none (0 : Nat) (0 : Nat), Go.Value.slice Option.none (0 : Nat) (0 : Nat)] w fun (v : Go.Value) (w' : Go.World) => ∃ (x_40 : Int), v = Go.Value.int Go.IntKind.i64 x_40 ∧ Go.Sx.CallsV
 Go.Proofs.Try.prog (26 : Nat) #[Go.Value.pointer x] w' fun (v : Go.Value) (w' : Go.World) => ∃ (x_41 : Int), v = Go.Value.int Go.IntKind.i64 x_41 ∧ Go.Sx.CallsV Go.Proofs.Try.prog (20 : Nat)
 #[Go.Value.pointer x] w' fun (v : Go.Value) (w' : Go.World) => ∃ (x : Int), v = Go.Value.int Go.IntKind.i64 x ∧ K (Go.Value.bool Bool.false) (Go.World.drew w') else Go.Sx.CallsV Go.Proofs.Try.prog (29
 : Nat) #[Go.Value.string (ByteArray.mk #[(105 : UInt8), (110 : UInt8)])] w' fun (v : Go.Value) (w' : Go.World) => ∃ (x : Int), ∃ (x_22 : Int), ∃ (x_23 : ByteArray), v = Go.Value.agg #[Go.Value.int
 Go.IntKind.u8 x, Go.Value.int Go.IntKind.i64 x_22, Go.Value.string x_23] ∧ ∀ (g_3 : Nat) (w'_8 : Go.World), Go.Sx.Fresh w' g_3 w'_8 [Go.Value.int Go.IntKind.u8 x, Go.Value.int Go.IntKind.i64 x_22,
 Go.Value.string x_23] (31 : Nat) → Go.Sx.CallsV Go.Proofs.Try.prog (18 : Nat) #[Go.Value.pointer x_7, Go.Value.slice (Option.some (Go.Addr.mk g (0 : Nat) Option.none)) (1 : Nat) (1 : Nat),
 Go.Value.slice (Option.some (Go.Addr.mk g_3 (0 : Nat) Option.none)) (1 : Nat) (1 : Nat)] w'_8 fun (v : Go.Value) (w' : Go.World) => ∃ (x : Int), v = Go.Value.int Go.IntKind.i64 x ∧ Go.Sx.CallsV
 Go.Proofs.Try.prog (29 : Nat) #[Go.Value.string (ByteArray.mk #[(111 : UInt8), (117 : UInt8), (116 : UInt8)])] w' fun (v : Go.Value) (w' : Go.World) => ∃ (x : Int), ∃ (x_24 : Int), ∃ (x_25 :
 ByteArray), v = Go.Value.agg #[Go.Value.int Go.IntKind.u8 x, Go.Value.int Go.IntKind.i64 x_24, Go.Value.string x_25] ∧ ∃ (ad : Go.Addr), Option.some (Go.Addr.mk g_3 (0 : Nat) Option.none) = Option.some
 ad ∧ ((0 : Int) ≤ (0 : Int) ∧ (0 : Int) < (↑(1 : Nat) : Int)) ∧ Go.Sx.stOK (Go.Addr.add ad (Int.toNat (0 : Int) * (3 : Nat))) (0 : Nat) [Go.Value.int Go.IntKind.u8 x, Go.Value.int Go.IntKind.i64 x_24,
 Go.Value.string x_25] w' ∧ ∀ (w'_9 : Go.World), w'_9 = Go.Sx.setAll (Go.Addr.add ad (Int.toNat (0 : Int) * (3 : Nat))) (0 : Nat) [Go.Value.int Go.IntKind.u8 x, Go.Value.int Go.IntKind.i64 x_24,
 Go.Value.string x_25] w' → Go.Sx.CallsV Go.Proofs.Try.prog (20 : Nat) #[Go.Value.pointer x_7] w'_9 fun (v : Go.Value) (w' : Go.World) => ∃ (x : Int), v = Go.Value.int Go.IntKind.i64 x ∧ Go.Sx.CallsV
 Go.Proofs.Try.prog (20 : Nat) #[Go.Value.pointer x_7] w' fun (v : Go.Value) (w' : Go.World) => ∃ (x : Int), v = Go.Value.int Go.IntKind.i64 x ∧ Go.Sx.CallsV Go.Proofs.Try.prog (22 : Nat)
 #[Go.Value.pointer x_7] w' fun (v : Go.Value) (w' : Go.World) => ∃ (x : Option Go.Addr), ∃ (x_26 : Nat), ∃ (x_27 : Nat), ∃ (x_28 : Bool), v = Go.Value.tuple #[Go.Value.slice x x_26 x_27, Go.Value.bool
 x_28] ∧ bif !Decidable.decide ((↑x_26 : Int) = (1 : Int)) then K (Go.Value.bool Bool.false) w' else Go.Sx.CallsV Go.Proofs.Try.prog (29 : Nat) #[Go.Value.string (ByteArray.mk #[(111 : UInt8), (117 :
 UInt8), (116 : UInt8)])] w' fun (v : Go.Value) (w' : Go.World) => ∃ (x_29 : Int), ∃ (x_30 : Int), ∃ (x_31 : ByteArray), v = Go.Value.agg #[Go.Value.int Go.IntKind.u8 x_29, Go.Value.int Go.IntKind.i64
 x_30, Go.Value.string x_31] ∧ ∃ (ad : Go.Addr), x = Option.some ad ∧ ((0 : Int) ≤ (0 : Int) ∧ (0 : Int) < (↑x_26 : Int)) ∧ Go.Sx.stOK (Go.Addr.add ad (Int.toNat (0 : Int) * (3 : Nat))) (0 : Nat)
 [Go.Value.int Go.IntKind.u8 x_29, Go.Value.int Go.IntKind.i64 x_30, Go.Value.string x_31] w' ∧ ∀ (w'_10 : Go.World), w'_10 = Go.Sx.setAll (Go.Addr.add ad (Int.toNat (0 : Int) * (3 : Nat))) (0 : Nat)
 [Go.Value.int Go.IntKind.u8 x_29, Go.Value.int Go.IntKind.i64 x_30, Go.Value.string x_31] w' → Go.Sx.CallsV Go.Proofs.Try.prog (22 : Nat) #[Go.Value.pointer x_7] w'_10 fun (v : Go.Value) (w' :
 Go.World) => ∃ (x : Option Go.Addr), ∃ (x_32 : Nat), ∃ (x_33 : Nat), ∃ (x_34 : Bool), v = Go.Value.tuple #[Go.Value.slice x x_32 x_33, Go.Value.bool x_34] ∧ Go.Sx.CallsV Go.Proofs.Try.prog (24 : Nat)
 #[Go.Value.pointer x_7] w' fun (v : Go.Value) (w' : Go.World) => ∃ (x : Int), v = Go.Value.int Go.IntKind.i64 x ∧ Go.Sx.CallsV Go.Proofs.Try.prog (22 : Nat) #[Go.Value.pointer x_7] w' fun (v :
 Go.Value) (w' : Go.World) => ∃ (x : Option Go.Addr), ∃ (x_35 : Nat), ∃ (x_36 : Nat), ∃ (x_37 : Bool), v = Go.Value.tuple #[Go.Value.slice x x_35 x_36, Go.Value.bool x_37] ∧ Go.Sx.CallsV
 Go.Proofs.Try.prog (14 : Nat) #[Go.Value.slice Option.none (0 : Nat) (0 : Nat), Go.Value.bool Bool.true] w' fun (v : Go.Value) (w' : Go.World) => ∃ (x : Option Go.Addr), ∃ (x_38 : Int), v =
 Go.Value.tuple #[Go.Value.pointer x, Go.Value.int Go.IntKind.i64 x_38] ∧ ∃ (I : Int → Go.World → Prop), ∃ (μ : Int → Go.World → Nat), I (0 : Int) w' ∧ ∀ (x_39 : Int) (w : Go.World), I x_39 w → bif
 Decidable.decide (x_39 < (65536 : Int)) then Go.Sx.CallsV Go.Proofs.Try.prog (18 : Nat) #[Go.Value.pointer x, Go.Value.slice Option.none (0 : Nat) (0 : Nat), Go.Value.slice Option.none (0 : Nat) (0 :
 Nat)] w fun (v : Go.Value) (w' : Go.World) => ∃ (x : Int), v = Go.Value.int Go.IntKind.i64 x ∧ bif !Decidable.decide (x = (0 : Int)) then K (Go.Value.bool Bool.false) w' else I (Go.IntKind.wrap
 Go.IntKind.i64 (x_39 + (1 : Int))) w' ∧ μ (Go.IntKind.wrap Go.IntKind.i64 (x_39 + (1 : Int))) w' < μ x_39 w else Go.Sx.CallsV Go.Proofs.Try.prog (18 : Nat) #[Go.Value.pointer x, Go.Value.slice
 Option.none (0 : Nat) (0 : Nat), Go.Value.slice Option.none (0 : Nat) (0 : Nat)] w fun (v : Go.Value) (w' : Go.World) => ∃ (x_40 : Int), v = Go.Value.int Go.IntKind.i64 x_40 ∧ Go.Sx.CallsV
 Go.Proofs.Try.prog (26 : Nat) #[Go.Value.pointer x] w' fun (v : Go.Value) (w' : Go.World) => ∃ (x_41 : Int), v = Go.Value.int Go.IntKind.i64 x_41 ∧ Go.Sx.CallsV Go.Proofs.Try.prog (20 : Nat)
 #[Go.Value.pointer x] w' fun (v : Go.Value) (w' : Go.World) => ∃ (x : Int), v = Go.Value.int Go.IntKind.i64 x ∧ K (Go.Value.bool Bool.false) (Go.World.drew w') else Go.Sx.CallsV Go.Proofs.Try.prog (29
 : Nat) #[Go.Value.string (ByteArray.mk #[(105 : UInt8), (110 : UInt8)])] w' fun (v : Go.Value) (w' : Go.World) => ∃ (x : Int), ∃ (x_22 : Int), ∃ (x_23 : ByteArray), v = Go.Value.agg #[Go.Value.int
 Go.IntKind.u8 x, Go.Value.int Go.IntKind.i64 x_22, Go.Value.string x_23] ∧ ∀ (g_3 : Nat) (w'_8 : Go.World), Go.Sx.Fresh w' g_3 w'_8 [Go.Value.int Go.IntKind.u8 x, Go.Value.int Go.IntKind.i64 x_22,
 Go.Value.string x_23] (31 : Nat) → Go.Sx.CallsV Go.Proofs.Try.prog (18 : Nat) #[Go.Value.pointer x_7, Go.Value.slice (Option.some (Go.Addr.mk g (0 : Nat) Option.none)) (1 : Nat) (1 : Nat),
 Go.Value.slice (Option.some (Go.Addr.mk g_3 (0 : Nat) Option.none)) (1 : Nat) (1 : Nat)] w'_8 fun (v : Go.Value) (w' : Go.World) => ∃ (x : Int), v = Go.Value.int Go.IntKind.i64 x ∧ Go.Sx.CallsV
 Go.Proofs.Try.prog (29 : Nat) #[Go.Value.string (ByteArray.mk #[(111 : UInt8), (117 : UInt8), (116 : UInt8)])] w' fun (v : Go.Value) (w' : Go.World) => ∃ (x : Int), ∃ (x_24 : Int), ∃ (x_25 :
 ByteArray), v = Go.Value.agg #[Go.Value.int Go.IntKind.u8 x, Go.Value.int Go.IntKind.i64 x_24, Go.Value.string x_25] ∧ ∃ (ad : Go.Addr), Option.some (Go.Addr.mk g_3 (0 : Nat) Option.none) = Option.some
 ad ∧ ((0 : Int) ≤ (0 : Int) ∧ (0 : Int) < (↑(1 : Nat) : Int)) ∧ Go.Sx.stOK (Go.Addr.add ad (Int.toNat (0 : Int) * (3 : Nat))) (0 : Nat) [Go.Value.int Go.IntKind.u8 x, Go.Value.int Go.IntKind.i64 x_24,
 Go.Value.string x_25] w' ∧ ∀ (w'_9 : Go.World), w'_9 = Go.Sx.setAll (Go.Addr.add ad (Int.toNat (0 : Int) * (3 : Nat))) (0 : Nat) [Go.Value.int Go.IntKind.u8 x, Go.Value.int Go.IntKind.i64 x_24,
 Go.Value.string x_25] w' → Go.Sx.CallsV Go.Proofs.Try.prog (20 : Nat) #[Go.Value.pointer x_7] w'_9 fun (v : Go.Value) (w' : Go.World) => ∃ (x : Int), v = Go.Value.int Go.IntKind.i64 x ∧ Go.Sx.CallsV
 Go.Proofs.Try.prog (20 : Nat) #[Go.Value.pointer x_7] w' fun (v : Go.Value) (w' : Go.World) => ∃ (x : Int), v = Go.Value.int Go.IntKind.i64 x ∧ Go.Sx.CallsV Go.Proofs.Try.prog (22 : Nat)
 #[Go.Value.pointer x_7] w' fun (v : Go.Value) (w' : Go.World) => ∃ (x : Option Go.Addr), ∃ (x_26 : Nat), ∃ (x_27 : Nat), ∃ (x_28 : Bool), v = Go.Value.tuple #[Go.Value.slice x x_26 x_27, Go.Value.bool
 x_28] ∧ bif !Decidable.decide ((↑x_26 : Int) = (1 : Int)) then K (Go.Value.bool Bool.false) w' else Go.Sx.CallsV Go.Proofs.Try.prog (29 : Nat) #[Go.Value.string (ByteArray.mk #[(111 : UInt8), (117 :
 UInt8), (116 : UInt8)])] w' fun (v : Go.Value) (w' : Go.World) => ∃ (x_29 : Int), ∃ (x_30 : Int), ∃ (x_31 : ByteArray), v = Go.Value.agg #[Go.Value.int Go.IntKind.u8 x_29, Go.Value.int Go.IntKind.i64
 x_30, Go.Value.string x_31] ∧ ∃ (ad : Go.Addr), x = Option.some ad ∧ ((0 : Int) ≤ (0 : Int) ∧ (0 : Int) < (↑x_26 : Int)) ∧ Go.Sx.stOK (Go.Addr.add ad (Int.toNat (0 : Int) * (3 : Nat))) (0 : Nat)
 [Go.Value.int Go.IntKind.u8 x_29, Go.Value.int Go.IntKind.i64 x_30, Go.Value.string x_31] w' ∧ ∀ (w'_10 : Go.World), w'_10 = Go.Sx.setAll (Go.Addr.add ad (Int.toNat (0 : Int) * (3 : Nat))) (0 : Nat)
 [Go.Value.int Go.IntKind.u8 x_29, Go.Value.int Go.IntKind.i64 x_30, Go.Value.string x_31] w' → Go.Sx.CallsV Go.Proofs.Try.prog (22 : Nat) #[Go.Value.pointer x_7] w'_10 fun (v : Go.Value) (w' :
 Go.World) => ∃ (x : Option Go.Addr), ∃ (x_32 : Nat), ∃ (x_33 : Nat), ∃ (x_34 : Bool), v = Go.Value.tuple #[Go.Value.slice x x_32 x_33, Go.Value.bool x_34] ∧ Go.Sx.CallsV Go.Proofs.Try.prog (24 : Nat)
 #[Go.Value.pointer x_7] w' fun (v : Go.Value) (w' : Go.World) => ∃ (x : Int), v = Go.Value.int Go.IntKind.i64 x ∧ Go.Sx.CallsV Go.Proofs.Try.prog (22 : Nat) #[Go.Value.pointer x_7] w' fun (v :
 Go.Value) (w' : Go.World) => ∃ (x : Option Go.Addr), ∃ (x_35 : Nat), ∃ (x_36 : Nat), ∃ (x_37 : Bool), v = Go.Value.tuple #[Go.Value.slice x x_35 x_36, Go.Value.bool x_37] ∧ Go.Sx.CallsV
 Go.Proofs.Try.prog (14 : Nat) #[Go.Value.slice Option.none (0 : Nat) (0 : Nat), Go.Value.bool Bool.true] w' fun (v : Go.Value) (w' : Go.World) => ∃ (x : Option Go.Addr), ∃ (x_38 : Int), v =
 Go.Value.tuple #[Go.Value.pointer x, Go.Value.int Go.IntKind.i64 x_38] ∧ ∃ (I : Int → Go.World → Prop), ∃ (μ : Int → Go.World → Nat), I (0 : Int) w' ∧ ∀ (x_39 : Int) (w : Go.World), I x_39 w → bif
 Decidable.decide (x_39 < (65536 : Int)) then Go.Sx.CallsV Go.Proofs.Try.prog (18 : Nat) #[Go.Value.pointer x, Go.Value.slice Option.none (0 : Nat) (0 : Nat), Go.Value.slice Option.none (0 : Nat) (0 :
 Nat)] w fun (v : Go.Value) (w' : Go.World) => ∃ (x : Int), v = Go.Value.int Go.IntKind.i64 x ∧ bif !Decidable.decide (x = (0 : Int)) then K (Go.Value.bool Bool.false) w' else I (Go.IntKind.wrap
 Go.IntKind.i64 (x_39 + (1 : Int))) w' ∧ μ (Go.IntKind.wrap Go.IntKind.i64 (x_39 + (1 : Int))) w' < μ x_39 w else Go.Sx.CallsV Go.Proofs.Try.prog (18 : Nat) #[Go.Value.pointer x, Go.Value.slice
 Option.none (0 : Nat) (0 : Nat), Go.Value.slice Option.none (0 : Nat) (0 : Nat)] w fun (v : Go.Value) (w' : Go.World) => ∃ (x_40 : Int), v = Go.Value.int Go.IntKind.i64 x_40 ∧ Go.Sx.CallsV
 Go.Proofs.Try.prog (26 : Nat) #[Go.Value.pointer x] w' fun (v : Go.Value) (w' : Go.World) => ∃ (x_41 : Int), v = Go.Value.int Go.IntKind.i64 x_41 ∧ Go.Sx.CallsV Go.Proofs.Try.prog (20 : Nat)
 #[Go.Value.pointer x] w' fun (v : Go.Value) (w' : Go.World) => ∃ (x : Int), v = Go.Value.int Go.IntKind.i64 x ∧ K (Go.Value.bool Bool.false) (Go.World.drew w') else (∃ (x : Option Go.Addr), ∃ (x_15 :
 Nat), ∃ (x_16 : Nat), ∃ (w'_6 : Go.World), Go.Sx.RunsTo Go.Proofs.Try.prog (Go.Instr.makeSlice (32 : Nat) (Go.Value.int Go.IntKind.i64 (16 : Int)) (Go.Value.int Go.IntKind.i64 (16 : Int))) w'
 (Go.Value.slice x x_15 x_16) w'_6 ∧ ∃ (I : Int → Go.World → Prop), ∃ (μ : Int → Go.World → Nat), I (0 : Int) w'_6 ∧ ∀ (x_17 : Int) (w : Go.World), I x_17 w → bif Decidable.decide (x_17 < (↑x_15 : Int))
 then Go.Sx.CallsV Go.Proofs.Try.prog (30 : Nat) #[Go.Value.string (ByteArray.mk #[(120 : UInt8)]), Go.Value.int Go.IntKind.i64 (65536 : Int)] w fun (v : Go.Value) (w' : Go.World) => ∃ (x_18 :
 ByteArray), v = Go.Value.string x_18 ∧ Go.Sx.CallsV Go.Proofs.Try.prog (29 : Nat) #[Go.Value.string x_18] w' fun (v : Go.Value) (w' : Go.World) => ∃ (x_19 : Int), ∃ (x_20 : Int), ∃ (x_21 : ByteArray),
 v = Go.Value.agg #[Go.Value.int Go.IntKind.u8 x_19, Go.Value.int Go.IntKind.i64 x_20, Go.Value.string x_21] ∧ ∃ (ad : Go.Addr), x = Option.some ad ∧ ((0 : Int) ≤ x_17 ∧ x_17 < (↑x_15 : Int)) ∧
 Go.Sx.stOK (Go.Addr.add ad (Int.toNat x_17 * (3 : Nat))) (0 : Nat) [Go.Value.int Go.IntKind.u8 x_19, Go.Value.int Go.IntKind.i64 x_20, Go.Value.string x_21] w' ∧ ∀ (w'_7 : Go.World), w'_7 =
 Go.Sx.setAll (Go.Addr.add ad (Int.toNat x_17 * (3 : Nat))) (0 : Nat) [Go.Value.int Go.IntKind.u8 x_19, Go.Value.int Go.IntKind.i64 x_20, Go.Value.string x_21] w' → I (Go.IntKind.wrap Go.IntKind.i64
 (x_17 + (1 : Int))) w'_7 ∧ μ (Go.IntKind.wrap Go.IntKind.i64 (x_17 + (1 : Int))) w'_7 < μ x_17 w else Go.Sx.CallsV Go.Proofs.Try.prog (18 : Nat) #[Go.Value.pointer x_7, Go.Value.slice (Option.some
 (Go.Addr.mk g (0 : Nat) Option.none)) (1 : Nat) (1 : Nat), Go.Value.slice x x_15 x_16] w fun (v : Go.Value) (w' : Go.World) => ∃ (x : Int), v = Go.Value.int Go.IntKind.i64 x ∧ bif Decidable.decide (x =
 (3 : Int)) then Go.Sx.CallsV Go.Proofs.Try.prog (26 : Nat) #[Go.Value.pointer x_7] w' fun (v : Go.Value) (w' : Go.World) => ∃ (x : Int), v = Go.Value.int Go.IntKind.i64 x ∧ bif Decidable.decide (x = (0
 : Int)) then Go.Sx.CallsV Go.Proofs.Try.prog (24 : Nat) #[Go.Value.pointer x_7] w' fun (v : Go.Value) (w' : Go.World) => ∃ (x : Int), v = Go.Value.int Go.IntKind.i64 x ∧ Go.Sx.CallsV Go.Proofs.Try.prog
 (29 : Nat) #[Go.Value.string (ByteArray.mk #[(105 : UInt8), (110 : UInt8)])] w' fun (v : Go.Value) (w' : Go.World) => ∃ (x : Int), ∃ (x_18 : Int), ∃ (x_19 : ByteArray), v = Go.Value.agg #[Go.Value.int
 Go.IntKind.u8 x, Go.Value.int Go.IntKind.i64 x_18, Go.Value.string x_19] ∧ ∀ (g_3 : Nat) (w'_7 : Go.World), Go.Sx.Fresh w' g_3 w'_7 [Go.Value.int Go.IntKind.u8 x, Go.Value.int Go.IntKind.i64 x_18,
 Go.Value.string x_19] (31 : Nat) → Go.Sx.CallsV Go.Proofs.Try.prog (18 : Nat) #[Go.Value.pointer x_7, Go.Value.slice (Option.some (Go.Addr.mk g (0 : Nat) Option.none)) (1 : Nat) (1 : Nat),
 Go.Value.slice (Option.some (Go.Addr.mk g_3 (0 : Nat) Option.none)) (1 : Nat) (1 : Nat)] w'_7 fun (v : Go.Value) (w' : Go.World) => ∃ (x : Int), v = Go.Value.int Go.IntKind.i64 x ∧ Go.Sx.CallsV
 Go.Proofs.Try.prog (29 : Nat) #[Go.Value.string (ByteArray.mk #[(111 : UInt8), (117 : UInt8), (116 : UInt8)])] w' fun (v : Go.Value) (w' : Go.World) => ∃ (x : Int), ∃ (x_20 : Int), ∃ (x_21 :
 ByteArray), v = Go.Value.agg #[Go.Value.int Go.IntKind.u8 x, Go.Value.int Go.IntKind.i64 x_20, Go.Value.string x_21] ∧ ∃ (ad : Go.Addr), Option.some (Go.Addr.mk g_3 (0 : Nat) Option.none) = Option.some
 ad ∧ ((0 : Int) ≤ (0 : Int) ∧ (0 : Int) < (↑(1 : Nat) : Int)) ∧ Go.Sx.stOK (Go.Addr.add ad (Int.toNat (0 : Int) * (3 : Nat))) (0 : Nat) [Go.Value.int Go.IntKind.u8 x, Go.Value.int Go.IntKind.i64 x_20,
 Go.Value.string x_21] w' ∧ ∀ (w'_8 : Go.World), w'_8 = Go.Sx.setAll (Go.Addr.add ad (Int.toNat (0 : Int) * (3 : Nat))) (0 : Nat) [Go.Value.int Go.IntKind.u8 x, Go.Value.int Go.IntKind.i64 x_20,
 Go.Value.string x_21] w' → Go.Sx.CallsV Go.Proofs.Try.prog (20 : Nat) #[Go.Value.pointer x_7] w'_8 fun (v : Go.Value) (w' : Go.World) => ∃ (x : Int), v = Go.Value.int Go.IntKind.i64 x ∧ Go.Sx.CallsV
 Go.Proofs.Try.prog (20 : Nat) #[Go.Value.pointer x_7] w' fun (v : Go.Value) (w' : Go.World) => ∃ (x : Int), v = Go.Value.int Go.IntKind.i64 x ∧ Go.Sx.CallsV Go.Proofs.Try.prog (22 : Nat)
 #[Go.Value.pointer x_7] w' fun (v : Go.Value) (w' : Go.World) => ∃ (x : Option Go.Addr), ∃ (x_22 : Nat), ∃ (x_23 : Nat), ∃ (x_24 : Bool), v = Go.Value.tuple #[Go.Value.slice x x_22 x_23, Go.Value.bool
 x_24] ∧ bif !Decidable.decide ((↑x_22 : Int) = (1 : Int)) then K (Go.Value.bool Bool.false) w' else Go.Sx.CallsV Go.Proofs.Try.prog (29 : Nat) #[Go.Value.string (ByteArray.mk #[(111 : UInt8), (117 :
 UInt8), (116 : UInt8)])] w' fun (v : Go.Value) (w' : Go.World) => ∃ (x_25 : Int), ∃ (x_26 : Int), ∃ (x_27 : ByteArray), v = Go.Value.agg #[Go.Value.int Go.IntKind.u8 x_25, Go.Value.int Go.IntKind.i64
 x_26, Go.Value.string x_27] ∧ ∃ (ad : Go.Addr), x = Option.some ad ∧ ((0 : Int) ≤ (0 : Int) ∧ (0 : Int) < (↑x_22 : Int)) ∧ Go.Sx.stOK (Go.Addr.add ad (Int.toNat (0 : Int) * (3 : Nat))) (0 : Nat)
 [Go.Value.int Go.IntKind.u8 x_25, Go.Value.int Go.IntKind.i64 x_26, Go.Value.string x_27] w' ∧ ∀ (w'_9 : Go.World), w'_9 = Go.Sx.setAll (Go.Addr.add ad (Int.toNat (0 : Int) * (3 : Nat))) (0 : Nat)
 [Go.Value.int Go.IntKind.u8 x_25, Go.Value.int Go.IntKind.i64 x_26, Go.Value.string x_27] w' → Go.Sx.CallsV Go.Proofs.Try.prog (22 : Nat) #[Go.Value.pointer x_7] w'_9 fun (v : Go.Value) (w' : Go.World)
 => ∃ (x : Option Go.Addr), ∃ (x_28 : Nat), ∃ (x_29 : Nat), ∃ (x_30 : Bool), v = Go.Value.tuple #[Go.Value.slice x x_28 x_29, Go.Value.bool x_30] ∧ Go.Sx.CallsV Go.Proofs.Try.prog (24 : Nat)
 #[Go.Value.pointer x_7] w' fun (v : Go.Value) (w' : Go.World) => ∃ (x : Int), v = Go.Value.int Go.IntKind.i64 x ∧ Go.Sx.CallsV Go.Proofs.Try.prog (22 : Nat) #[Go.Value.pointer x_7] w' fun (v :
 Go.Value) (w' : Go.World) => ∃ (x : Option Go.Addr), ∃ (x_31 : Nat), ∃ (x_32 : Nat), ∃ (x_33 : Bool), v = Go.Value.tuple #[Go.Value.slice x x_31 x_32, Go.Value.bool x_33] ∧ Go.Sx.CallsV
 Go.Proofs.Try.prog (14 : Nat) #[Go.Value.slice Option.none (0 : Nat) (0 : Nat), Go.Value.bool Bool.true] w' fun (v : Go.Value) (w' : Go.World) => ∃ (x : Option Go.Addr), ∃ (x_34 : Int), v =
 Go.Value.tuple #[Go.Value.pointer x, Go.Value.int Go.IntKind.i64 x_34] ∧ ∃ (I : Int → Go.World → Prop), ∃ (μ : Int → Go.World → Nat), I (0 : Int) w' ∧ ∀ (x_35 : Int) (w : Go.World), I x_35 w → bif
 Decidable.decide (x_35 < (65536 : Int)) then Go.Sx.CallsV Go.Proofs.Try.prog (18 : Nat) #[Go.Value.pointer x, Go.Value.slice Option.none (0 : Nat) (0 : Nat), Go.Value.slice Option.none (0 : Nat) (0 :
 Nat)] w fun (v : Go.Value) (w' : Go.World) => ∃ (x : Int), v = Go.Value.int Go.IntKind.i64 x ∧ bif !Decidable.decide (x = (0 : Int)) then K (Go.Value.bool Bool.false) w' else I (Go.IntKind.wrap
 Go.IntKind.i64 (x_35 + (1 : Int))) w' ∧ μ (Go.IntKind.wrap Go.IntKind.i64 (x_35 + (1 : Int))) w' < μ x_35 w else Go.Sx.CallsV Go.Proofs.Try.prog (18 : Nat) #[Go.Value.pointer x, Go.Value.slice
 Option.none (0 : Nat) (0 : Nat), Go.Value.slice Option.none (0 : Nat) (0 : Nat)] w fun (v : Go.Value) (w' : Go.World) => ∃ (x_36 : Int), v = Go.Value.int Go.IntKind.i64 x_36 ∧ Go.Sx.CallsV
 Go.Proofs.Try.prog (26 : Nat) #[Go.Value.pointer x] w' fun (v : Go.Value) (w' : Go.World) => ∃ (x_37 : Int), v = Go.Value.int Go.IntKind.i64 x_37 ∧ Go.Sx.CallsV Go.Proofs.Try.prog (20 : Nat)
 #[Go.Value.pointer x] w' fun (v : Go.Value) (w' : Go.World) => ∃ (x : Int), v = Go.Value.int Go.IntKind.i64 x ∧ K (Go.Value.bool Bool.false) (Go.World.drew w') else Go.Sx.CallsV Go.Proofs.Try.prog (29
 : Nat) #[Go.Value.string (ByteArray.mk #[(105 : UInt8), (110 : UInt8)])] w' fun (v : Go.Value) (w' : Go.World) => ∃ (x : Int), ∃ (x_18 : Int), ∃ (x_19 : ByteArray), v = Go.Value.agg #[Go.Value.int
 Go.IntKind.u8 x, Go.Value.int Go.IntKind.i64 x_18, Go.Value.string x_19] ∧ ∀ (g_3 : Nat) (w'_7 : Go.World), Go.Sx.Fresh w' g_3 w'_7 [Go.Value.int Go.IntKind.u8 x, Go.Value.int Go.IntKind.i64 x_18,
 Go.Value.string x_19] (31 : Nat) → Go.Sx.CallsV Go.Proofs.Try.prog (18 : Nat) #[Go.Value.pointer x_7, Go.Value.slice (Option.some (Go.Addr.mk g (0 : Nat) Option.none)) (1 : Nat) (1 : Nat),
 Go.Value.slice (Option.some (Go.Addr.mk g_3 (0 : Nat) Option.none)) (1 : Nat) (1 : Nat)] w'_7 fun (v : Go.Value) (w' : Go.World) => ∃ (x : Int), v = Go.Value.int Go.IntKind.i64 x ∧ Go.Sx.CallsV
 Go.Proofs.Try.prog (29 : Nat) #[Go.Value.string (ByteArray.mk #[(111 : UInt8), (117 : UInt8), (116 : UInt8)])] w' fun (v : Go.Value) (w' : Go.World) => ∃ (x : Int), ∃ (x_20 : Int), ∃ (x_21 :
 ByteArray), v = Go.Value.agg #[Go.Value.int Go.IntKind.u8 x, Go.Value.int Go.IntKind.i64 x_20, Go.Value.string x_21] ∧ ∃ (ad : Go.Addr), Option.some (Go.Addr.mk g_3 (0 : Nat) Option.none) = Option.some
 ad ∧ ((0 : Int) ≤ (0 : Int) ∧ (0 : Int) < (↑(1 : Nat) : Int)) ∧ Go.Sx.stOK (Go.Addr.add ad (Int.toNat (0 : Int) * (3 : Nat))) (0 : Nat) [Go.Value.int Go.IntKind.u8 x, Go.Value.int Go.IntKind.i64 x_20,
 Go.Value.string x_21] w' ∧ ∀ (w'_8 : Go.World), w'_8 = Go.Sx.setAll (Go.Addr.add ad (Int.toNat (0 : Int) * (3 : Nat))) (0 : Nat) [Go.Value.int Go.IntKind.u8 x, Go.Value.int Go.IntKind.i64 x_20,
 Go.Value.string x_21] w' → Go.Sx.CallsV Go.Proofs.Try.prog (20 : Nat) #[Go.Value.pointer x_7] w'_8 fun (v : Go.Value) (w' : Go.World) => ∃ (x : Int), v = Go.Value.int Go.IntKind.i64 x ∧ Go.Sx.CallsV
 Go.Proofs.Try.prog (20 : Nat) #[Go.Value.pointer x_7] w' fun (v : Go.Value) (w' : Go.World) => ∃ (x : Int), v = Go.Value.int Go.IntKind.i64 x ∧ Go.Sx.CallsV Go.Proofs.Try.prog (22 : Nat)
 #[Go.Value.pointer x_7] w' fun (v : Go.Value) (w' : Go.World) => ∃ (x : Option Go.Addr), ∃ (x_22 : Nat), ∃ (x_23 : Nat), ∃ (x_24 : Bool), v = Go.Value.tuple #[Go.Value.slice x x_22 x_23, Go.Value.bool
 x_24] ∧ bif !Decidable.decide ((↑x_22 : Int) = (1 : Int)) then K (Go.Value.bool Bool.false) w' else Go.Sx.CallsV Go.Proofs.Try.prog (29 : Nat) #[Go.Value.string (ByteArray.mk #[(111 : UInt8), (117 :
 UInt8), (116 : UInt8)])] w' fun (v : Go.Value) (w' : Go.World) => ∃ (x_25 : Int), ∃ (x_26 : Int), ∃ (x_27 : ByteArray), v = Go.Value.agg #[Go.Value.int Go.IntKind.u8 x_25, Go.Value.int Go.IntKind.i64
 x_26, Go.Value.string x_27] ∧ ∃ (ad : Go.Addr), x = Option.some ad ∧ ((0 : Int) ≤ (0 : Int) ∧ (0 : Int) < (↑x_22 : Int)) ∧ Go.Sx.stOK (Go.Addr.add ad (Int.toNat (0 : Int) * (3 : Nat))) (0 : Nat)
 [Go.Value.int Go.IntKind.u8 x_25, Go.Value.int Go.IntKind.i64 x_26, Go.Value.string x_27] w' ∧ ∀ (w'_9 : Go.World), w'_9 = Go.Sx.setAll (Go.Addr.add ad (Int.toNat (0 : Int) * (3 : Nat))) (0 : Nat)
 [Go.Value.int Go.IntKind.u8 x_25, Go.Value.int Go.IntKind.i64 x_26, Go.Value.string x_27] w' → Go.Sx.CallsV Go.Proofs.Try.prog (22 : Nat) #[Go.Value.pointer x_7] w'_9 fun (v : Go.Value) (w' : Go.World)
 => ∃ (x : Option Go.Addr), ∃ (x_28 : Nat), ∃ (x_29 : Nat), ∃ (x_30 : Bool), v = Go.Value.tuple #[Go.Value.slice x x_28 x_29, Go.Value.bool x_30] ∧ Go.Sx.CallsV Go.Proofs.Try.prog (24 : Nat)
 #[Go.Value.pointer x_7] w' fun (v : Go.Value) (w' : Go.World) => ∃ (x : Int), v = Go.Value.int Go.IntKind.i64 x ∧ Go.Sx.CallsV Go.Proofs.Try.prog (22 : Nat) #[Go.Value.pointer x_7] w' fun (v :
 Go.Value) (w' : Go.World) => ∃ (x : Option Go.Addr), ∃ (x_31 : Nat), ∃ (x_32 : Nat), ∃ (x_33 : Bool), v = Go.Value.tuple #[Go.Value.slice x x_31 x_32, Go.Value.bool x_33] ∧ Go.Sx.CallsV
 Go.Proofs.Try.prog (14 : Nat) #[Go.Value.slice Option.none (0 : Nat) (0 : Nat), Go.Value.bool Bool.true] w' fun (v : Go.Value) (w' : Go.World) => ∃ (x : Option Go.Addr), ∃ (x_34 : Int), v =
 Go.Value.tuple #[Go.Value.pointer x, Go.Value.int Go.IntKind.i64 x_34] ∧ ∃ (I : Int → Go.World → Prop), ∃ (μ : Int → Go.World → Nat), I (0 : Int) w' ∧ ∀ (x_35 : Int) (w : Go.World), I x_35 w → bif
 Decidable.decide (x_35 < (65536 : Int)) then Go.Sx.CallsV Go.Proofs.Try.prog (18 : Nat) #[Go.Value.pointer x, Go.Value.slice Option.none (0 : Nat) (0 : Nat), Go.Value.slice Option.none (0 : Nat) (0 :
 Nat)] w fun (v : Go.Value) (w' : Go.World) => ∃ (x : Int), v = Go.Value.int Go.IntKind.i64 x ∧ bif !Decidable.decide (x = (0 : Int)) then K (Go.Value.bool Bool.false) w' else I (Go.IntKind.wrap
 Go.IntKind.i64 (x_35 + (1 : Int))) w' ∧ μ (Go.IntKind.wrap Go.IntKind.i64 (x_35 + (1 : Int))) w' < μ x_35 w else Go.Sx.CallsV Go.Proofs.Try.prog (18 : Nat) #[Go.Value.pointer x, Go.Value.slice
 Option.none (0 : Nat) (0 : Nat), Go.Value.slice Option.none (0 : Nat) (0 : Nat)] w fun (v : Go.Value) (w' : Go.World) => ∃ (x_36 : Int), v = Go.Value.int Go.IntKind.i64 x_36 ∧ Go.Sx.CallsV
 Go.Proofs.Try.prog (26 : Nat) #[Go.Value.pointer x] w' fun (v : Go.Value) (w' : Go.World) => ∃ (x_37 : Int), v = Go.Value.int Go.IntKind.i64 x_37 ∧ Go.Sx.CallsV Go.Proofs.Try.prog (20 : Nat)
 #[Go.Value.pointer x] w' fun (v : Go.Value) (w' : Go.World) => ∃ (x : Int), v = Go.Value.int Go.IntKind.i64 x ∧ K (Go.Value.bool Bool.false) (Go.World.drew w') else Go.Sx.CallsV Go.Proofs.Try.prog (29
 : Nat) #[Go.Value.string (ByteArray.mk #[(105 : UInt8), (110 : UInt8)])] w' fun (v : Go.Value) (w' : Go.World) => ∃ (x : Int), ∃ (x_18 : Int), ∃ (x_19 : ByteArray), v = Go.Value.agg #[Go.Value.int
 Go.IntKind.u8 x, Go.Value.int Go.IntKind.i64 x_18, Go.Value.string x_19] ∧ ∀ (g_3 : Nat) (w'_7 : Go.World), Go.Sx.Fresh w' g_3 w'_7 [Go.Value.int Go.IntKind.u8 x, Go.Value.int Go.IntKind.i64 x_18,
 Go.Value.string x_19] (31 : Nat) → Go.Sx.CallsV Go.Proofs.Try.prog (18 : Nat) #[Go.Value.pointer x_7, Go.Value.slice (Option.some (Go.Addr.mk g (0 : Nat) Option.none)) (1 : Nat) (1 : Nat),
 Go.Value.slice (Option.some (Go.Addr.mk g_3 (0 : Nat) Option.none)) (1 : Nat) (1 : Nat)] w'_7 fun (v : Go.Value) (w' : Go.World) => ∃ (x : Int), v = Go.Value.int Go.IntKind.i64 x ∧ Go.Sx.CallsV
 Go.Proofs.Try.prog (29 : Nat) #[Go.Value.string (ByteArray.mk #[(111 : UInt8), (117 : UInt8), (116 : UInt8)])] w' fun (v : Go.Value) (w' : Go.World) => ∃ (x : Int), ∃ (x_20 : Int), ∃ (x_21 :
 ByteArray), v = Go.Value.agg #[Go.Value.int Go.IntKind.u8 x, Go.Value.int Go.IntKind.i64 x_20, Go.Value.string x_21] ∧ ∃ (ad : Go.Addr), Option.some (Go.Addr.mk g_3 (0 : Nat) Option.none) = Option.some
 ad ∧ ((0 : Int) ≤ (0 : Int) ∧ (0 : Int) < (↑(1 : Nat) : Int)) ∧ Go.Sx.stOK (Go.Addr.add ad (Int.toNat (0 : Int) * (3 : Nat))) (0 : Nat) [Go.Value.int Go.IntKind.u8 x, Go.Value.int Go.IntKind.i64 x_20,
 Go.Value.string x_21] w' ∧ ∀ (w'_8 : Go.World), w'_8 = Go.Sx.setAll (Go.Addr.add ad (Int.toNat (0 : Int) * (3 : Nat))) (0 : Nat) [Go.Value.int Go.IntKind.u8 x, Go.Value.int Go.IntKind.i64 x_20,
 Go.Value.string x_21] w' → Go.Sx.CallsV Go.Proofs.Try.prog (20 : Nat) #[Go.Value.pointer x_7] w'_8 fun (v : Go.Value) (w' : Go.World) => ∃ (x : Int), v = Go.Value.int Go.IntKind.i64 x ∧ Go.Sx.CallsV
 Go.Proofs.Try.prog (20 : Nat) #[Go.Value.pointer x_7] w' fun (v : Go.Value) (w' : Go.World) => ∃ (x : Int), v = Go.Value.int Go.IntKind.i64 x ∧ Go.Sx.CallsV Go.Proofs.Try.prog (22 : Nat)
 #[Go.Value.pointer x_7] w' fun (v : Go.Value) (w' : Go.World) => ∃ (x : Option Go.Addr), ∃ (x_22 : Nat), ∃ (x_23 : Nat), ∃ (x_24 : Bool), v = Go.Value.tuple #[Go.Value.slice x x_22 x_23, Go.Value.bool
 x_24] ∧ bif !Decidable.decide ((↑x_22 : Int) = (1 : Int)) then K (Go.Value.bool Bool.false) w' else Go.Sx.CallsV Go.Proofs.Try.prog (29 : Nat) #[Go.Value.string (ByteArray.mk #[(111 : UInt8), (117 :
 UInt8), (116 : UInt8)])] w' fun (v : Go.Value) (w' : Go.World) => ∃ (x_25 : Int), ∃ (x_26 : Int), ∃ (x_27 : ByteArray), v = Go.Value.agg #[Go.Value.int Go.IntKind.u8 x_25, Go.Value.int Go.IntKind.i64
 x_26, Go.Value.string x_27] ∧ ∃ (ad : Go.Addr), x = Option.some ad ∧ ((0 : Int) ≤ (0 : Int) ∧ (0 : Int) < (↑x_22 : Int)) ∧ Go.Sx.stOK (Go.Addr.add ad (Int.toNat (0 : Int) * (3 : Nat))) (0 : Nat)
 [Go.Value.int Go.IntKind.u8 x_25, Go.Value.int Go.IntKind.i64 x_26, Go.Value.string x_27] w' ∧ ∀ (w'_9 : Go.World), w'_9 = Go.Sx.setAll (Go.Addr.add ad (Int.toNat (0 : Int) * (3 : Nat))) (0 : Nat)
 [Go.Value.int Go.IntKind.u8 x_25, Go.Value.int Go.IntKind.i64 x_26, Go.Value.string x_27] w' → Go.Sx.CallsV Go.Proofs.Try.prog (22 : Nat) #[Go.Value.pointer x_7] w'_9 fun (v : Go.Value) (w' : Go.World)
 => ∃ (x : Option Go.Addr), ∃ (x_28 : Nat), ∃ (x_29 : Nat), ∃ (x_30 : Bool), v = Go.Value.tuple #[Go.Value.slice x x_28 x_29, Go.Value.bool x_30] ∧ Go.Sx.CallsV Go.Proofs.Try.prog (24 : Nat)
 #[Go.Value.pointer x_7] w' fun (v : Go.Value) (w' : Go.World) => ∃ (x : Int), v = Go.Value.int Go.IntKind.i64 x ∧ Go.Sx.CallsV Go.Proofs.Try.prog (22 : Nat) #[Go.Value.pointer x_7] w' fun (v :
 Go.Value) (w' : Go.World) => ∃ (x : Option Go.Addr), ∃ (x_31 : Nat), ∃ (x_32 : Nat), ∃ (x_33 : Bool), v = Go.Value.tuple #[Go.Value.slice x x_31 x_32, Go.Value.bool x_33] ∧ Go.Sx.CallsV
 Go.Proofs.Try.prog (14 : Nat) #[Go.Value.slice Option.none (0 : Nat) (0 : Nat), Go.Value.bool Bool.true] w' fun (v : Go.Value) (w' : Go.World) => ∃ (x : Option Go.Addr), ∃ (x_34 : Int), v =
 Go.Value.tuple #[Go.Value.pointer x, Go.Value.int Go.IntKind.i64 x_34] ∧ ∃ (I : Int → Go.World → Prop), ∃ (μ : Int → Go.World → Nat), I (0 : Int) w' ∧ ∀ (x_35 : Int) (w : Go.World), I x_35 w → bif
 Decidable.decide (x_35 < (65536 : Int)) then Go.Sx.CallsV Go.Proofs.Try.prog (18 : Nat) #[Go.Value.pointer x, Go.Value.slice Option.none (0 : Nat) (0 : Nat), Go.Value.slice Option.none (0 : Nat) (0 :
 Nat)] w fun (v : Go.Value) (w' : Go.World) => ∃ (x : Int), v = Go.Value.int Go.IntKind.i64 x ∧ bif !Decidable.decide (x = (0 : Int)) then K (Go.Value.bool Bool.false) w' else I (Go.IntKind.wrap
 Go.IntKind.i64 (x_35 + (1 : Int))) w' ∧ μ (Go.IntKind.wrap Go.IntKind.i64 (x_35 + (1 : Int))) w' < μ x_35 w else Go.Sx.CallsV Go.Proofs.Try.prog (18 : Nat) #[Go.Value.pointer x, Go.Value.slice
 Option.none (0 : Nat) (0 : Nat), Go.Value.slice Option.none (0 : Nat) (0 : Nat)] w fun (v : Go.Value) (w' : Go.World) => ∃ (x_36 : Int), v = Go.Value.int Go.IntKind.i64 x_36 ∧ Go.Sx.CallsV
 Go.Proofs.Try.prog (26 : Nat) #[Go.Value.pointer x] w' fun (v : Go.Value) (w' : Go.World) => ∃ (x_37 : Int), v = Go.Value.int Go.IntKind.i64 x_37 ∧ Go.Sx.CallsV Go.Proofs.Try.prog (20 : Nat)
 #[Go.Value.pointer x] w' fun (v : Go.Value) (w' : Go.World) => ∃ (x : Int), v = Go.Value.int Go.IntKind.i64 x ∧ K (Go.Value.bool Bool.false) (Go.World.drew w')) ∧ ∃ (x : Option Go.Addr), ∃ (x_15 :
 Nat), ∃ (x_16 : Nat), ∃ (w'_6 : Go.World), Go.Sx.RunsTo Go.Proofs.Try.prog (Go.Instr.makeSlice (32 : Nat) (Go.Value.int Go.IntKind.i64 (16 : Int)) (Go.Value.int Go.IntKind.i64 (16 : Int))) w'
 (Go.Value.slice x x_15 x_16) w'_6 ∧ ∃ (I : Int → Go.World → Prop), ∃ (μ : Int → Go.World → Nat), I (0 : Int) w'_6 ∧ ∀ (x_17 : Int) (w : Go.World), I x_17 w → bif Decidable.decide (x_17 < (↑x_15 : Int))
 then Go.Sx.CallsV Go.Proofs.Try.prog (30 : Nat) #[Go.Value.string (ByteArray.mk #[(120 : UInt8)]), Go.Value.int Go.IntKind.i64 (65536 : Int)] w fun (v : Go.Value) (w' : Go.World) => ∃ (x_18 :
 ByteArray), v = Go.Value.string x_18 ∧ Go.Sx.CallsV Go.Proofs.Try.prog (29 : Nat) #[Go.Value.string x_18] w' fun (v : Go.Value) (w' : Go.World) => ∃ (x_19 : Int), ∃ (x_20 : Int), ∃ (x_21 : ByteArray),
 v = Go.Value.agg #[Go.Value.int Go.IntKind.u8 x_19, Go.Value.int Go.IntKind.i64 x_20, Go.Value.string x_21] ∧ ∃ (ad : Go.Addr), x = Option.some ad ∧ ((0 : Int) ≤ x_17 ∧ x_17 < (↑x_15 : Int)) ∧
 Go.Sx.stOK (Go.Addr.add ad (Int.toNat x_17 * (3 : Nat))) (0 : Nat) [Go.Value.int Go.IntKind.u8 x_19, Go.Value.int Go.IntKind.i64 x_20, Go.Value.string x_21] w' ∧ ∀ (w'_7 : Go.World), w'_7 =
 Go.Sx.setAll (Go.Addr.add ad (Int.toNat x_17 * (3 : Nat))) (0 : Nat) [Go.Value.int Go.IntKind.u8 x_19, Go.Value.int Go.IntKind.i64 x_20, Go.Value.string x_21] w' → I (Go.IntKind.wrap Go.IntKind.i64
 (x_17 + (1 : Int))) w'_7 ∧ μ (Go.IntKind.wrap Go.IntKind.i64 (x_17 + (1 : Int))) w'_7 < μ x_17 w else Go.Sx.CallsV Go.Proofs.Try.prog (18 : Nat) #[Go.Value.pointer x_7, Go.Value.slice (Option.some
 (Go.Addr.mk g (0 : Nat) Option.none)) (1 : Nat) (1 : Nat), Go.Value.slice x x_15 x_16] w fun (v : Go.Value) (w' : Go.World) => ∃ (x : Int), v = Go.Value.int Go.IntKind.i64 x ∧ bif Decidable.decide (x =
 (3 : Int)) then Go.Sx.CallsV Go.Proofs.Try.prog (26 : Nat) #[Go.Value.pointer x_7] w' fun (v : Go.Value) (w' : Go.World) => ∃ (x : Int), v = Go.Value.int Go.IntKind.i64 x ∧ bif Decidable.decide (x = (0
 : Int)) then Go.Sx.CallsV Go.Proofs.Try.prog (24 : Nat) #[Go.Value.pointer x_7] w' fun (v : Go.Value) (w' : Go.World) => ∃ (x : Int), v = Go.Value.int Go.IntKind.i64 x ∧ Go.Sx.CallsV Go.Proofs.Try.prog
 (29 : Nat) #[Go.Value.string (ByteArray.mk #[(105 : UInt8), (110 : UInt8)])] w' fun (v : Go.Value) (w' : Go.World) => ∃ (x : Int), ∃ (x_18 : Int), ∃ (x_19 : ByteArray), v = Go.Value.agg #[Go.Value.int
 Go.IntKind.u8 x, Go.Value.int Go.IntKind.i64 x_18, Go.Value.string x_19] ∧ ∀ (g_3 : Nat) (w'_7 : Go.World), Go.Sx.Fresh w' g_3 w'_7 [Go.Value.int Go.IntKind.u8 x, Go.Value.int Go.IntKind.i64 x_18,
 Go.Value.string x_19] (31 : Nat) → Go.Sx.CallsV Go.Proofs.Try.prog (18 : Nat) #[Go.Value.pointer x_7, Go.Value.slice (Option.some (Go.Addr.mk g (0 : Nat) Option.none)) (1 : Nat) (1 : Nat),
 Go.Value.slice (Option.some (Go.Addr.mk g_3 (0 : Nat) Option.none)) (1 : Nat) (1 : Nat)] w'_7 fun (v : Go.Value) (w' : Go.World) => ∃ (x : Int), v = Go.Value.int Go.IntKind.i64 x ∧ Go.Sx.CallsV
 Go.Proofs.Try.prog (29 : Nat) #[Go.Value.string (ByteArray.mk #[(111 : UInt8), (117 : UInt8), (116 : UInt8)])] w' fun (v : Go.Value) (w' : Go.World) => ∃ (x : Int), ∃ (x_20 : Int), ∃ (x_21 :
 ByteArray), v = Go.Value.agg #[Go.Value.int Go.IntKind.u8 x, Go.Value.int Go.IntKind.i64 x_20, Go.Value.string x_21] ∧ ∃ (ad : Go.Addr), Option.some (Go.Addr.mk g_3 (0 : Nat) Option.none) = Option.some
 ad ∧ ((0 : Int) ≤ (0 : Int) ∧ (0 : Int) < (↑(1 : Nat) : Int)) ∧ Go.Sx.stOK (Go.Addr.add ad (Int.toNat (0 : Int) * (3 : Nat))) (0 : Nat) [Go.Value.int Go.IntKind.u8 x, Go.Value.int Go.IntKind.i64 x_20,
 Go.Value.string x_21] w' ∧ ∀ (w'_8 : Go.World), w'_8 = Go.Sx.setAll (Go.Addr.add ad (Int.toNat (0 : Int) * (3 : Nat))) (0 : Nat) [Go.Value.int Go.IntKind.u8 x, Go.Value.int Go.IntKind.i64 x_20,
 Go.Value.string x_21] w' → Go.Sx.CallsV Go.Proofs.Try.prog (20 : Nat) #[Go.Value.pointer x_7] w'_8 fun (v : Go.Value) (w' : Go.World) => ∃ (x : Int), v = Go.Value.int Go.IntKind.i64 x ∧ Go.Sx.CallsV
 Go.Proofs.Try.prog (20 : Nat) #[Go.Value.pointer x_7] w' fun (v : Go.Value) (w' : Go.World) => ∃ (x : Int), v = Go.Value.int Go.IntKind.i64 x ∧ Go.Sx.CallsV Go.Proofs.Try.prog (22 : Nat)
 #[Go.Value.pointer x_7] w' fun (v : Go.Value) (w' : Go.World) => ∃ (x : Option Go.Addr), ∃ (x_22 : Nat), ∃ (x_23 : Nat), ∃ (x_24 : Bool), v = Go.Value.tuple #[Go.Value.slice x x_22 x_23, Go.Value.bool
 x_24] ∧ bif !Decidable.decide ((↑x_22 : Int) = (1 : Int)) then K (Go.Value.bool Bool.false) w' else Go.Sx.CallsV Go.Proofs.Try.prog (29 : Nat) #[Go.Value.string (ByteArray.mk #[(111 : UInt8), (117 :
 UInt8), (116 : UInt8)])] w' fun (v : Go.Value) (w' : Go.World) => ∃ (x_25 : Int), ∃ (x_26 : Int), ∃ (x_27 : ByteArray), v = Go.Value.agg #[Go.Value.int Go.IntKind.u8 x_25, Go.Value.int Go.IntKind.i64
 x_26, Go.Value.string x_27] ∧ ∃ (ad : Go.Addr), x = Option.some ad ∧ ((0 : Int) ≤ (0 : Int) ∧ (0 : Int) < (↑x_22 : Int)) ∧ Go.Sx.stOK (Go.Addr.add ad (Int.toNat (0 : Int) * (3 : Nat))) (0 : Nat)
 [Go.Value.int Go.IntKind.u8 x_25, Go.Value.int Go.IntKind.i64 x_26, Go.Value.string x_27] w' ∧ ∀ (w'_9 : Go.World), w'_9 = Go.Sx.setAll (Go.Addr.add ad (Int.toNat (0 : Int) * (3 : Nat))) (0 : Nat)
 [Go.Value.int Go.IntKind.u8 x_25, Go.Value.int Go.IntKind.i64 x_26, Go.Value.string x_27] w' → Go.Sx.CallsV Go.Proofs.Try.prog (22 : Nat) #[Go.Value.pointer x_7] w'_9 fun (v : Go.Value) (w' : Go.World)
 => ∃ (x : Option Go.Addr), ∃ (x_28 : Nat), ∃ (x_29 : Nat), ∃ (x_30 : Bool), v = Go.Value.tuple #[Go.Value.slice x x_28 x_29, Go.Value.bool x_30] ∧ Go.Sx.CallsV Go.Proofs.Try.prog (24 : Nat)
 #[Go.Value.pointer x_7] w' fun (v : Go.Value) (w' : Go.World) => ∃ (x : Int), v = Go.Value.int Go.IntKind.i64 x ∧ Go.Sx.CallsV Go.Proofs.Try.prog (22 : Nat) #[Go.Value.pointer x_7] w' fun (v :
 Go.Value) (w' : Go.World) => ∃ (x : Option Go.Addr), ∃ (x_31 : Nat), ∃ (x_32 : Nat), ∃ (x_33 : Bool), v = Go.Value.tuple #[Go.Value.slice x x_31 x_32, Go.Value.bool x_33] ∧ Go.Sx.CallsV
 Go.Proofs.Try.prog (14 : Nat) #[Go.Value.slice Option.none (0 : Nat) (0 : Nat), Go.Value.bool Bool.true] w' fun (v : Go.Value) (w' : Go.World) => ∃ (x : Option Go.Addr), ∃ (x_34 : Int), v =
 Go.Value.tuple #[Go.Value.pointer x, Go.Value.int Go.IntKind.i64 x_34] ∧ ∃ (I : Int → Go.World → Prop), ∃ (μ : Int → Go.World → Nat), I (0 : Int) w' ∧ ∀ (x_35 : Int) (w : Go.World), I x_35 w → bif
 Decidable.decide (x_35 < (65536 : Int)) then Go.Sx.CallsV Go.Proofs.Try.prog (18 : Nat) #[Go.Value.pointer x, Go.Value.slice Option.none (0 : Nat) (0 : Nat), Go.Value.slice Option.none (0 : Nat) (0 :
 Nat)] w fun (v : Go.Value) (w' : Go.World) => ∃ (x : Int), v = Go.Value.int Go.IntKind.i64 x ∧ bif !Decidable.decide (x = (0 : Int)) then K (Go.Value.bool Bool.false) w' else I (Go.IntKind.wrap
 Go.IntKind.i64 (x_35 + (1 : Int))) w' ∧ μ (Go.IntKind.wrap Go.IntKind.i64 (x_35 + (1 : Int))) w' < μ x_35 w else Go.Sx.CallsV Go.Proofs.Try.prog (18 : Nat) #[Go.Value.pointer x, Go.Value.slice
 Option.none (0 : Nat) (0 : Nat), Go.Value.slice Option.none (0 : Nat) (0 : Nat)] w fun (v : Go.Value) (w' : Go.World) => ∃ (x_36 : Int), v = Go.Value.int Go.IntKind.i64 x_36 ∧ Go.Sx.CallsV
 Go.Proofs.Try.prog (26 : Nat) #[Go.Value.pointer x] w' fun (v : Go.Value) (w' : Go.World) => ∃ (x_37 : Int), v = Go.Value.int Go.IntKind.i64 x_37 ∧ Go.Sx.CallsV Go.Proofs.Try.prog (20 : Nat)
 #[Go.Value.pointer x] w' fun (v : Go.Value) (w' : Go.World) => ∃ (x : Int), v = Go.Value.int Go.IntKind.i64 x ∧ K (Go.Value.bool Bool.false) (Go.World.drew w') else Go.Sx.CallsV Go.Proofs.Try.prog (29
 : Nat) #[Go.Value.string (ByteArray.mk #[(105 : UInt8), (110 : UInt8)])] w' fun (v : Go.Value) (w' : Go.World) => ∃ (x : Int), ∃ (x_18 : Int), ∃ (x_19 : ByteArray), v = Go.Value.agg #[Go.Value.int
 Go.IntKind.u8 x, Go.Value.int Go.IntKind.i64 x_18, Go.Value.string x_19] ∧ ∀ (g_3 : Nat) (w'_7 : Go.World), Go.Sx.Fresh w' g_3 w'_7 [Go.Value.int Go.IntKind.u8 x, Go.Value.int Go.IntKind.i64 x_18,
 Go.Value.string x_19] (31 : Nat) → Go.Sx.CallsV Go.Proofs.Try.prog (18 : Nat) #[Go.Value.pointer x_7, Go.Value.slice (Option.some (Go.Addr.mk g (0 : Nat) Option.none)) (1 : Nat) (1 : Nat),
 Go.Value.slice (Option.some (Go.Addr.mk g_3 (0 : Nat) Option.none)) (1 : Nat) (1 : Nat)] w'_7 fun (v : Go.Value) (w' : Go.World) => ∃ (x : Int), v = Go.Value.int Go.IntKind.i64 x ∧ Go.Sx.CallsV
 Go.Proofs.Try.prog (29 : Nat) #[Go.Value.string (ByteArray.mk #[(111 : UInt8), (117 : UInt8), (116 : UInt8)])] w' fun (v : Go.Value) (w' : Go.World) => ∃ (x : Int), ∃ (x_20 : Int), ∃ (x_21 :
 ByteArray), v = Go.Value.agg #[Go.Value.int Go.IntKind.u8 x, Go.Value.int Go.IntKind.i64 x_20, Go.Value.string x_21] ∧ ∃ (ad : Go.Addr), Option.some (Go.Addr.mk g_3 (0 : Nat) Option.none) = Option.some
 ad ∧ ((0 : Int) ≤ (0 : Int) ∧ (0 : Int) < (↑(1 : Nat) : Int)) ∧ Go.Sx.stOK (Go.Addr.add ad (Int.toNat (0 : Int) * (3 : Nat))) (0 : Nat) [Go.Value.int Go.IntKind.u8 x, Go.Value.int Go.IntKind.i64 x_20,
 Go.Value.string x_21] w' ∧ ∀ (w'_8 : Go.World), w'_8 = Go.Sx.setAll (Go.Addr.add ad (Int.toNat (0 : Int) * (3 : Nat))) (0 : Nat) [Go.Value.int Go.IntKind.u8 x, Go.Value.int Go.IntKind.i64 x_20,
 Go.Value.string x_21] w' → Go.Sx.CallsV Go.Proofs.Try.prog (20 : Nat) #[Go.Value.pointer x_7] w'_8 fun (v : Go.Value) (w' : Go.World) => ∃ (x : Int), v = Go.Value.int Go.IntKind.i64 x ∧ Go.Sx.CallsV
 Go.Proofs.Try.prog (20 : Nat) #[Go.Value.pointer x_7] w' fun (v : Go.Value) (w' : Go.World) => ∃ (x : Int), v = Go.Value.int Go.IntKind.i64 x ∧ Go.Sx.CallsV Go.Proofs.Try.prog (22 : Nat)
 #[Go.Value.pointer x_7] w' fun (v : Go.Value) (w' : Go.World) => ∃ (x : Option Go.Addr), ∃ (x_22 : Nat), ∃ (x_23 : Nat), ∃ (x_24 : Bool), v = Go.Value.tuple #[Go.Value.slice x x_22 x_23, Go.Value.bool
 x_24] ∧ bif !Decidable.decide ((↑x_22 : Int) = (1 : Int)) then K (Go.Value.bool Bool.false) w' else Go.Sx.CallsV Go.Proofs.Try.prog (29 : Nat) #[Go.Value.string (ByteArray.mk #[(111 : UInt8), (117 :
 UInt8), (116 : UInt8)])] w' fun (v : Go.Value) (w' : Go.World) => ∃ (x_25 : Int), ∃ (x_26 : Int), ∃ (x_27 : ByteArray), v = Go.Value.agg #[Go.Value.int Go.IntKind.u8 x_25, Go.Value.int Go.IntKind.i64
 x_26, Go.Value.string x_27] ∧ ∃ (ad : Go.Addr), x = Option.some ad ∧ ((0 : Int) ≤ (0 : Int) ∧ (0 : Int) < (↑x_22 : Int)) ∧ Go.Sx.stOK (Go.Addr.add ad (Int.toNat (0 : Int) * (3 : Nat))) (0 : Nat)
 [Go.Value.int Go.IntKind.u8 x_25, Go.Value.int Go.IntKind.i64 x_26, Go.Value.string x_27] w' ∧ ∀ (w'_9 : Go.World), w'_9 = Go.Sx.setAll (Go.Addr.add ad (Int.toNat (0 : Int) * (3 : Nat))) (0 : Nat)
 [Go.Value.int Go.IntKind.u8 x_25, Go.Value.int Go.IntKind.i64 x_26, Go.Value.string x_27] w' → Go.Sx.CallsV Go.Proofs.Try.prog (22 : Nat) #[Go.Value.pointer x_7] w'_9 fun (v : Go.Value) (w' : Go.World)
 => ∃ (x : Option Go.Addr), ∃ (x_28 : Nat), ∃ (x_29 : Nat), ∃ (x_30 : Bool), v = Go.Value.tuple #[Go.Value.slice x x_28 x_29, Go.Value.bool x_30] ∧ Go.Sx.CallsV Go.Proofs.Try.prog (24 : Nat)
 #[Go.Value.pointer x_7] w' fun (v : Go.Value) (w' : Go.World) => ∃ (x : Int), v = Go.Value.int Go.IntKind.i64 x ∧ Go.Sx.CallsV Go.Proofs.Try.prog (22 : Nat) #[Go.Value.pointer x_7] w' fun (v :
 Go.Value) (w' : Go.World) => ∃ (x : Option Go.Addr), ∃ (x_31 : Nat), ∃ (x_32 : Nat), ∃ (x_33 : Bool), v = Go.Value.tuple #[Go.Value.slice x x_31 x_32, Go.Value.bool x_33] ∧ Go.Sx.CallsV
 Go.Proofs.Try.prog (14 : Nat) #[Go.Value.slice Option.none (0 : Nat) (0 : Nat), Go.Value.bool Bool.true] w' fun (v : Go.Value) (w' : Go.World) => ∃ (x : Option Go.Addr), ∃ (x_34 : Int), v =
 Go.Value.tuple #[Go.Value.pointer x, Go.Value.int Go.IntKind.i64 x_34] ∧ ∃ (I : Int → Go.World → Prop), ∃ (μ : Int → Go.World → Nat), I (0 : Int) w' ∧ ∀ (x_35 : Int) (w : Go.World), I x_35 w → bif
 Decidable.decide (x_35 < (65536 : Int)) then Go.Sx.CallsV Go.Proofs.Try.prog (18 : Nat) #[Go.Value.pointer x, Go.Value.slice Option.none (0 : Nat) (0 : Nat), Go.Value.slice Option.none (0 : Nat) (0 :
 Nat)] w fun (v : Go.Value) (w' : Go.World) => ∃ (x : Int), v = Go.Value.int Go.IntKind.i64 x ∧ bif !Decidable.decide (x = (0 : Int)) then K (Go.Value.bool Bool.false) w' else I (Go.IntKind.wrap
 Go.IntKind.i64 (x_35 + (1 : Int))) w' ∧ μ (Go.IntKind.wrap Go.IntKind.i64 (x_35 + (1 : Int))) w' < μ x_35 w else Go.Sx.CallsV Go.Proofs.Try.prog (18 : Nat) #[Go.Value.pointer x, Go.Value.slice
 Option.none (0 : Nat) (0 : Nat), Go.Value.slice Option.none (0 : Nat) (0 : Nat)] w fun (v : Go.Value) (w' : Go.World) => ∃ (x_36 : Int), v = Go.Value.int Go.IntKind.i64 x_36 ∧ Go.Sx.CallsV
 Go.Proofs.Try.prog (26 : Nat) #[Go.Value.pointer x] w' fun (v : Go.Value) (w' : Go.World) => ∃ (x_37 : Int), v = Go.Value.int Go.IntKind.i64 x_37 ∧ Go.Sx.CallsV Go.Proofs.Try.prog (20 : Nat)
 #[Go.Value.pointer x] w' fun (v : Go.Value) (w' : Go.World) => ∃ (x : Int), v = Go.Value.int Go.IntKind.i64 x ∧ K (Go.Value.bool Bool.false) (Go.World.drew w') else Go.Sx.CallsV Go.Proofs.Try.prog (29
 : Nat) #[Go.Value.string (ByteArray.mk #[(105 : UInt8), (110 : UInt8)])] w' fun (v : Go.Value) (w' : Go.World) => ∃ (x : Int), ∃ (x_18 : Int), ∃ (x_19 : ByteArray), v = Go.Value.agg #[Go.Value.int
 Go.IntKind.u8 x, Go.Value.int Go.IntKind.i64 x_18, Go.Value.string x_19] ∧ ∀ (g_3 : Nat) (w'_7 : Go.World), Go.Sx.Fresh w' g_3 w'_7 [Go.Value.int Go.IntKind.u8 x, Go.Value.int Go.IntKind.i64 x_18,
 Go.Value.string x_19] (31 : Nat) → Go.Sx.CallsV Go.Proofs.Try.prog (18 : Nat) #[Go.Value.pointer x_7, Go.Value.slice (Option.some (Go.Addr.mk g (0 : Nat) Option.none)) (1 : Nat) (1 : Nat),
 Go.Value.slice (Option.some (Go.Addr.mk g_3 (0 : Nat) Option.none)) (1 : Nat) (1 : Nat)] w'_7 fun (v : Go.Value) (w' : Go.World) => ∃ (x : Int), v = Go.Value.int Go.IntKind.i64 x ∧ Go.Sx.CallsV
 Go.Proofs.Try.prog (29 : Nat) #[Go.Value.string (ByteArray.mk #[(111 : UInt8), (117 : UInt8), (116 : UInt8)])] w' fun (v : Go.Value) (w' : Go.World) => ∃ (x : Int), ∃ (x_20 : Int), ∃ (x_21 :
 ByteArray), v = Go.Value.agg #[Go.Value.int Go.IntKind.u8 x, Go.Value.int Go.IntKind.i64 x_20, Go.Value.string x_21] ∧ ∃ (ad : Go.Addr), Option.some (Go.Addr.mk g_3 (0 : Nat) Option.none) = Option.some
 ad ∧ ((0 : Int) ≤ (0 : Int) ∧ (0 : Int) < (↑(1 : Nat) : Int)) ∧ Go.Sx.stOK (Go.Addr.add ad (Int.toNat (0 : Int) * (3 : Nat))) (0 : Nat) [Go.Value.int Go.IntKind.u8 x, Go.Value.int Go.IntKind.i64 x_20,
 Go.Value.string x_21] w' ∧ ∀ (w'_8 : Go.World), w'_8 = Go.Sx.setAll (Go.Addr.add ad (Int.toNat (0 : Int) * (3 : Nat))) (0 : Nat) [Go.Value.int Go.IntKind.u8 x, Go.Value.int Go.IntKind.i64 x_20,
 Go.Value.string x_21] w' → Go.Sx.CallsV Go.Proofs.Try.prog (20 : Nat) #[Go.Value.pointer x_7] w'_8 fun (v : Go.Value) (w' : Go.World) => ∃ (x : Int), v = Go.Value.int Go.IntKind.i64 x ∧ Go.Sx.CallsV
 Go.Proofs.Try.prog (20 : Nat) #[Go.Value.pointer x_7] w' fun (v : Go.Value) (w' : Go.World) => ∃ (x : Int), v = Go.Value.int Go.IntKind.i64 x ∧ Go.Sx.CallsV Go.Proofs.Try.prog (22 : Nat)
 #[Go.Value.pointer x_7] w' fun (v : Go.Value) (w' : Go.World) => ∃ (x : Option Go.Addr), ∃ (x_22 : Nat), ∃ (x_23 : Nat), ∃ (x_24 : Bool), v = Go.Value.tuple #[Go.Value.slice x x_22 x_23, Go.Value.bool
 x_24] ∧ bif !Decidable.decide ((↑x_22 : Int) = (1 : Int)) then K (Go.Value.bool Bool.false) w' else Go.Sx.CallsV Go.Proofs.Try.prog (29 : Nat) #[Go.Value.string (ByteArray.mk #[(111 : UInt8), (117 :
 UInt8), (116 : UInt8)])] w' fun (v : Go.Value) (w' : Go.World) => ∃ (x_25 : Int), ∃ (x_26 : Int), ∃ (x_27 : ByteArray), v = Go.Value.agg #[Go.Value.int Go.IntKind.u8 x_25, Go.Value.int Go.IntKind.i64
 x_26, Go.Value.string x_27] ∧ ∃ (ad : Go.Addr), x = Option.some ad ∧ ((0 : Int) ≤ (0 : Int) ∧ (0 : Int) < (↑x_22 : Int)) ∧ Go.Sx.stOK (Go.Addr.add ad (Int.toNat (0 : Int) * (3 : Nat))) (0 : Nat)
 [Go.Value.int Go.IntKind.u8 x_25, Go.Value.int Go.IntKind.i64 x_26, Go.Value.string x_27] w' ∧ ∀ (w'_9 : Go.World), w'_9 = Go.Sx.setAll (Go.Addr.add ad (Int.toNat (0 : Int) * (3 : Nat))) (0 : Nat)
 [Go.Value.int Go.IntKind.u8 x_25, Go.Value.int Go.IntKind.i64 x_26, Go.Value.string x_27] w' → Go.Sx.CallsV Go.Proofs.Try.prog (22 : Nat) #[Go.Value.pointer x_7] w'_9 fun (v : Go.Value) (w' : Go.World)
 => ∃ (x : Option Go.Addr), ∃ (x_28 : Nat), ∃ (x_29 : Nat), ∃ (x_30 : Bool), v = Go.Value.tuple #[Go.Value.slice x x_28 x_29, Go.Value.bool x_30] ∧ Go.Sx.CallsV Go.Proofs.Try.prog (24 : Nat)
 #[Go.Value.pointer x_7] w' fun (v : Go.Value) (w' : Go.World) => ∃ (x : Int), v = Go.Value.int Go.IntKind.i64 x ∧ Go.Sx.CallsV Go.Proofs.Try.prog (22 : Nat) #[Go.Value.pointer x_7] w' fun (v :
 Go.Value) (w' : Go.World) => ∃ (x : Option Go.Addr), ∃ (x_31 : Nat), ∃ (x_32 : Nat), ∃ (x_33 : Bool), v = Go.Value.tuple #[Go.Value.slice x x_31 x_32, Go.Value.bool x_33] ∧ Go.Sx.CallsV
 Go.Proofs.Try.prog (14 : Nat) #[Go.Value.slice Option.none (0 : Nat) (0 : Nat), Go.Value.bool Bool.true] w' fun (v : Go.Value) (w' : Go.World) => ∃ (x : Option Go.Addr), ∃ (x_34 : Int), v =
 Go.Value.tuple #[Go.Value.pointer x, Go.Value.int Go.IntKind.i64 x_34] ∧ ∃ (I : Int → Go.World → Prop), ∃ (μ : Int → Go.World → Nat), I (0 : Int) w' ∧ ∀ (x_35 : Int) (w : Go.World), I x_35 w → bif
 Decidable.decide (x_35 < (65536 : Int)) then Go.Sx.CallsV Go.Proofs.Try.prog (18 : Nat) #[Go.Value.pointer x, Go.Value.slice Option.none (0 : Nat) (0 : Nat), Go.Value.slice Option.none (0 : Nat) (0 :
 Nat)] w fun (v : Go.Value) (w' : Go.World) => ∃ (x : Int), v = Go.Value.int Go.IntKind.i64 x ∧ bif !Decidable.decide (x = (0 : Int)) then K (Go.Value.bool Bool.false) w' else I (Go.IntKind.wrap
 Go.IntKind.i64 (x_35 + (1 : Int))) w' ∧ μ (Go.IntKind.wrap Go.IntKind.i64 (x_35 + (1 : Int))) w' < μ x_35 w else Go.Sx.CallsV Go.Proofs.Try.prog (18 : Nat) #[Go.Value.pointer x, Go.Value.slice
 Option.none (0 : Nat) (0 : Nat), Go.Value.slice Option.none (0 : Nat) (0 : Nat)] w fun (v : Go.Value) (w' : Go.World) => ∃ (x_36 : Int), v = Go.Value.int Go.IntKind.i64 x_36 ∧ Go.Sx.CallsV
 Go.Proofs.Try.prog (26 : Nat) #[Go.Value.pointer x] w' fun (v : Go.Value) (w' : Go.World) => ∃ (x_37 : Int), v = Go.Value.int Go.IntKind.i64 x_37 ∧ Go.Sx.CallsV Go.Proofs.Try.prog (20 : Nat)
 #[Go.Value.pointer x] w' fun (v : Go.Value) (w' : Go.World) => ∃ (x : Int), v = Go.Value.int Go.IntKind.i64 x ∧ K (Go.Value.bool Bool.false) (Go.World.drew w') else (∃ (x : Option Go.Addr), ∃ (x_14 :
 Nat), ∃ (x_15 : Nat), ∃ (w'_5 : Go.World), Go.Sx.RunsTo Go.Proofs.Try.prog (Go.Instr.makeSlice (32 : Nat) (Go.Value.int Go.IntKind.i64 (16 : Int)) (Go.Value.int Go.IntKind.i64 (16 : Int))) w'
 (Go.Value.slice x x_14 x_15) w'_5 ∧ ∃ (I : Int → Go.World → Prop), ∃ (μ : Int → Go.World → Nat), I (0 : Int) w'_5 ∧ ∀ (x_16 : Int) (w : Go.World), I x_16 w → bif Decidable.decide (x_16 < (↑x_14 : Int))
 then Go.Sx.CallsV Go.Proofs.Try.prog (30 : Nat) #[Go.Value.string (ByteArray.mk #[(120 : UInt8)]), Go.Value.int Go.IntKind.i64 (65536 : Int)] w fun (v : Go.Value) (w' : Go.World) => ∃ (x_17 :
 ByteArray), v = Go.Value.string x_17 ∧ Go.Sx.CallsV Go.Proofs.Try.prog (29 : Nat) #[Go.Value.string x_17] w' fun (v : Go.Value) (w' : Go.World) => ∃ (x_18 : Int), ∃ (x_19 : Int), ∃ (x_20 : ByteArray),
 v = Go.Value.agg #[Go.Value.int Go.IntKind.u8 x_18, Go.Value.int Go.IntKind.i64 x_19, Go.Value.string x_20] ∧ ∃ (ad : Go.Addr), x = Option.some ad ∧ ((0 : Int) ≤ x_16 ∧ x_16 < (↑x_14 : Int)) ∧
 Go.Sx.stOK (Go.Addr.add ad (Int.toNat x_16 * (3 : Nat))) (0 : Nat) [Go.Value.int Go.IntKind.u8 x_18, Go.Value.int Go.IntKind.i64 x_19, Go.Value.string x_20] w' ∧ ∀ (w'_6 : Go.World), w'_6 =
 Go.Sx.setAll (Go.Addr.add ad (Int.toNat x_16 * (3 : Nat))) (0 : Nat) [Go.Value.int Go.IntKind.u8 x_18, Go.Value.int Go.IntKind.i64 x_19, Go.Value.string x_20] w' → I (Go.IntKind.wrap Go.IntKind.i64
 (x_16 + (1 : Int))) w'_6 ∧ μ (Go.IntKind.wrap Go.IntKind.i64 (x_16 + (1 : Int))) w'_6 < μ x_16 w else Go.Sx.CallsV Go.Proofs.Try.prog (18 : Nat) #[Go.Value.pointer x_7, Go.Value.slice (Option.some
 (Go.Addr.mk g (0 : Nat) Option.none)) (1 : Nat) (1 : Nat), Go.Value.slice x x_14 x_15] w fun (v : Go.Value) (w' : Go.World) => ∃ (x : Int), v = Go.Value.int Go.IntKind.i64 x ∧ bif Decidable.decide (x =
 (3 : Int)) then Go.Sx.CallsV Go.Proofs.Try.prog (26 : Nat) #[Go.Value.pointer x_7] w' fun (v : Go.Value) (w' : Go.World) => ∃ (x : Int), v = Go.Value.int Go.IntKind.i64 x ∧ bif Decidable.decide (x = (0
 : Int)) then Go.Sx.CallsV Go.Proofs.Try.prog (24 : Nat) #[Go.Value.pointer x_7] w' fun (v : Go.Value) (w' : Go.World) => ∃ (x : Int), v = Go.Value.int Go.IntKind.i64 x ∧ Go.Sx.CallsV Go.Proofs.Try.prog
 (29 : Nat) #[Go.Value.string (ByteArray.mk #[(105 : UInt8), (110 : UInt8)])] w' fun (v : Go.Value) (w' : Go.World) => ∃ (x : Int), ∃ (x_17 : Int), ∃ (x_18 : ByteArray), v = Go.Value.agg #[Go.Value.int
 Go.IntKind.u8 x, Go.Value.int Go.IntKind.i64 x_17, Go.Value.string x_18] ∧ ∀ (g_2 : Nat) (w'_6 : Go.World), Go.Sx.Fresh w' g_2 w'_6 [Go.Value.int Go.IntKind.u8 x, Go.Value.int Go.IntKind.i64 x_17,
 Go.Value.string x_18] (31 : Nat) → Go.Sx.CallsV Go.Proofs.Try.prog (18 : Nat) #[Go.Value.pointer x_7, Go.Value.slice (Option.some (Go.Addr.mk g (0 : Nat) Option.none)) (1 : Nat) (1 : Nat),
 Go.Value.slice (Option.some (Go.Addr.mk g_2 (0 : Nat) Option.none)) (1 : Nat) (1 : Nat)] w'_6 fun (v : Go.Value) (w' : Go.World) => ∃ (x : Int), v = Go.Value.int Go.IntKind.i64 x ∧ Go.Sx.CallsV
 Go.Proofs.Try.prog (29 : Nat) #[Go.Value.string (ByteArray.mk #[(111 : UInt8), (117 : UInt8), (116 : UInt8)])] w' fun (v : Go.Value) (w' : Go.World) => ∃ (x : Int), ∃ (x_19 : Int), ∃ (x_20 :
 ByteArray), v = Go.Value.agg #[Go.Value.int Go.IntKind.u8 x, Go.Value.int Go.IntKind.i64 x_19, Go.Value.string x_20] ∧ ∃ (ad : Go.Addr), Option.some (Go.Addr.mk g_2 (0 : Nat) Option.none) = Option.some
 ad ∧ ((0 : Int) ≤ (0 : Int) ∧ (0 : Int) < (↑(1 : Nat) : Int)) ∧ Go.Sx.stOK (Go.Addr.add ad (Int.toNat (0 : Int) * (3 : Nat))) (0 : Nat) [Go.Value.int Go.IntKind.u8 x, Go.Value.int Go.IntKind.i64 x_19,
 Go.Value.string x_20] w' ∧ ∀ (w'_7 : Go.World), w'_7 = Go.Sx.setAll (Go.Addr.add ad (Int.toNat (0 : Int) * (3 : Nat))) (0 : Nat) [Go.Value.int Go.IntKind.u8 x, Go.Value.int Go.IntKind.i64 x_19,
 Go.Value.string x_20] w' → Go.Sx.CallsV Go.Proofs.Try.prog (20 : Nat) #[Go.Value.pointer x_7] w'_7 fun (v : Go.Value) (w' : Go.World) => ∃ (x : Int), v = Go.Value.int Go.IntKind.i64 x ∧ Go.Sx.CallsV
 Go.Proofs.Try.prog (20 : Nat) #[Go.Value.pointer x_7] w' fun (v : Go.Value) (w' : Go.World) => ∃ (x : Int), v = Go.Value.int Go.IntKind.i64 x ∧ Go.Sx.CallsV Go.Proofs.Try.prog (22 : Nat)
 #[Go.Value.pointer x_7] w' fun (v : Go.Value) (w' : Go.World) => ∃ (x : Option Go.Addr), ∃ (x_21 : Nat), ∃ (x_22 : Nat), ∃ (x_23 : Bool), v = Go.Value.tuple #[Go.Value.slice x x_21 x_22, Go.Value.bool
 x_23] ∧ bif !Decidable.decide ((↑x_21 : Int) = (1 : Int)) then K (Go.Value.bool Bool.false) w' else Go.Sx.CallsV Go.Proofs.Try.prog (29 : Nat) #[Go.Value.string (ByteArray.mk #[(111 : UInt8), (117 :
 UInt8), (116 : UInt8)])] w' fun (v : Go.Value) (w' : Go.World) => ∃ (x_24 : Int), ∃ (x_25 : Int), ∃ (x_26 : ByteArray), v = Go.Value.agg #[Go.Value.int Go.IntKind.u8 x_24, Go.Value.int Go.IntKind.i64
 x_25, Go.Value.string x_26] ∧ ∃ (ad : Go.Addr), x = Option.some ad ∧ ((0 : Int) ≤ (0 : Int) ∧ (0 : Int) < (↑x_21 : Int)) ∧ Go.Sx.stOK (Go.Addr.add ad (Int.toNat (0 : Int) * (3 : Nat))) (0 : Nat)
 [Go.Value.int Go.IntKind.u8 x_24, Go.Value.int Go.IntKind.i64 x_25, Go.Value.string x_26] w' ∧ ∀ (w'_8 : Go.World), w'_8 = Go.Sx.setAll (Go.Addr.add ad (Int.toNat (0 : Int) * (3 : Nat))) (0 : Nat)
 [Go.Value.int Go.IntKind.u8 x_24, Go.Value.int Go.IntKind.i64 x_25, Go.Value.string x_26] w' → Go.Sx.CallsV Go.Proofs.Try.prog (22 : Nat) #[Go.Value.pointer x_7] w'_8 fun (v : Go.Value) (w' : Go.World)
 => ∃ (x : Option Go.Addr), ∃ (x_27 : Nat), ∃ (x_28 : Nat), ∃ (x_29 : Bool), v = Go.Value.tuple #[Go.Value.slice x x_27 x_28, Go.Value.bool x_29] ∧ Go.Sx.CallsV Go.Proofs.Try.prog (24 : Nat)
 #[Go.Value.pointer x_7] w' fun (v : Go.Value) (w' : Go.World) => ∃ (x : Int), v = Go.Value.int Go.IntKind.i64 x ∧ Go.Sx.CallsV Go.Proofs.Try.prog (22 : Nat) #[Go.Value.pointer x_7] w' fun (v :
 Go.Value) (w' : Go.World) => ∃ (x : Option Go.Addr), ∃ (x_30 : Nat), ∃ (x_31 : Nat), ∃ (x_32 : Bool), v = Go.Value.tuple #[Go.Value.slice x x_30 x_31, Go.Value.bool x_32] ∧ Go.Sx.CallsV
 Go.Proofs.Try.prog (14 : Nat) #[Go.Value.slice Option.none (0 : Nat) (0 : Nat), Go.Value.bool Bool.true] w' fun (v : Go.Value) (w' : Go.World) => ∃ (x : Option Go.Addr), ∃ (x_33 : Int), v =
 Go.Value.tuple #[Go.Value.pointer x, Go.Value.int Go.IntKind.i64 x_33] ∧ ∃ (I : Int → Go.World → Prop), ∃ (μ : Int → Go.World → Nat), I (0 : Int) w' ∧ ∀ (x_34 : Int) (w : Go.World), I x_34 w → bif
 Decidable.decide (x_34 < (65536 : Int)) then Go.Sx.CallsV Go.Proofs.Try.prog (18 : Nat) #[Go.Value.pointer x, Go.Value.slice Option.none (0 : Nat) (0 : Nat), Go.Value.slice Option.none (0 : Nat) (0 :
 Nat)] w fun (v : Go.Value) (w' : Go.World) => ∃ (x : Int), v = Go.Value.int Go.IntKind.i64 x ∧ bif !Decidable.decide (x = (0 : Int)) then K (Go.Value.bool Bool.false) w' else I (Go.IntKind.wrap
 Go.IntKind.i64 (x_34 + (1 : Int))) w' ∧ μ (Go.IntKind.wrap Go.IntKind.i64 (x_34 + (1 : Int))) w' < μ x_34 w else Go.Sx.CallsV Go.Proofs.Try.prog (18 : Nat) #[Go.Value.pointer x, Go.Value.slice
 Option.none (0 : Nat) (0 : Nat), Go.Value.slice Option.none (0 : Nat) (0 : Nat)] w fun (v : Go.Value) (w' : Go.World) => ∃ (x_35 : Int), v = Go.Value.int Go.IntKind.i64 x_35 ∧ Go.Sx.CallsV
 Go.Proofs.Try.prog (26 : Nat) #[Go.Value.pointer x] w' fun (v : Go.Value) (w' : Go.World) => ∃ (x_36 : Int), v = Go.Value.int Go.IntKind.i64 x_36 ∧ Go.Sx.CallsV Go.Proofs.Try.prog (20 : Nat)
 #[Go.Value.pointer x] w' fun (v : Go.Value) (w' : Go.World) => ∃ (x : Int), v = Go.Value.int Go.IntKind.i64 x ∧ K (Go.Value.bool Bool.false) (Go.World.drew w') else Go.Sx.CallsV Go.Proofs.Try.prog (29
 : Nat) #[Go.Value.string (ByteArray.mk #[(105 : UInt8), (110 : UInt8)])] w' fun (v : Go.Value) (w' : Go.World) => ∃ (x : Int), ∃ (x_17 : Int), ∃ (x_18 : ByteArray), v = Go.Value.agg #[Go.Value.int
 Go.IntKind.u8 x, Go.Value.int Go.IntKind.i64 x_17, Go.Value.string x_18] ∧ ∀ (g_2 : Nat) (w'_6 : Go.World), Go.Sx.Fresh w' g_2 w'_6 [Go.Value.int Go.IntKind.u8 x, Go.Value.int Go.IntKind.i64 x_17,
 Go.Value.string x_18] (31 : Nat) → Go.Sx.CallsV Go.Proofs.Try.prog (18 : Nat) #[Go.Value.pointer x_7, Go.Value.slice (Option.some (Go.Addr.mk g (0 : Nat) Option.none)) (1 : Nat) (1 : Nat),
 Go.Value.slice (Option.some (Go.Addr.mk g_2 (0 : Nat) Option.none)) (1 : Nat) (1 : Nat)] w'_6 fun (v : Go.Value) (w' : Go.World) => ∃ (x : Int), v = Go.Value.int Go.IntKind.i64 x ∧ Go.Sx.CallsV
 Go.Proofs.Try.prog (29 : Nat) #[Go.Value.string (ByteArray.mk #[(111 : UInt8), (117 : UInt8), (116 : UInt8)])] w' fun (v : Go.Value) (w' : Go.World) => ∃ (x : Int), ∃ (x_19 : Int), ∃ (x_20 :
 ByteArray), v = Go.Value.agg #[Go.Value.int Go.IntKind.u8 x, Go.Value.int Go.IntKind.i64 x_19, Go.Value.string x_20] ∧ ∃ (ad : Go.Addr), Option.some (Go.Addr.mk g_2 (0 : Nat) Option.none) = Option.some
 ad ∧ ((0 : Int) ≤ (0 : Int) ∧ (0 : Int) < (↑(1 : Nat) : Int)) ∧ Go.Sx.stOK (Go.Addr.add ad (Int.toNat (0 : Int) * (3 : Nat))) (0 : Nat) [Go.Value.int Go.IntKind.u8 x, Go.Value.int Go.IntKind.i64 x_19,
 Go.Value.string x_20] w' ∧ ∀ (w'_7 : Go.World), w'_7 = Go.Sx.setAll (Go.Addr.add ad (Int.toNat (0 : Int) * (3 : Nat))) (0 : Nat) [Go.Value.int Go.IntKind.u8 x, Go.Value.int Go.IntKind.i64 x_19,
 Go.Value.string x_20] w' → Go.Sx.CallsV Go.Proofs.Try.prog (20 : Nat) #[Go.Value.pointer x_7] w'_7 fun (v : Go.Value) (w' : Go.World) => ∃ (x : Int), v = Go.Value.int Go.IntKind.i64 x ∧ Go.Sx.CallsV
 Go.Proofs.Try.prog (20 : Nat) #[Go.Value.pointer x_7] w' fun (v : Go.Value) (w' : Go.World) => ∃ (x : Int), v = Go.Value.int Go.IntKind.i64 x ∧ Go.Sx.CallsV Go.Proofs.Try.prog (22 : Nat)
 #[Go.Value.pointer x_7] w' fun (v : Go.Value) (w' : Go.World) => ∃ (x : Option Go.Addr), ∃ (x_21 : Nat), ∃ (x_22 : Nat), ∃ (x_23 : Bool), v = Go.Value.tuple #[Go.Value.slice x x_21 x_22, Go.Value.bool
 x_23] ∧ bif !Decidable.decide ((↑x_21 : Int) = (1 : Int)) then K (Go.Value.bool Bool.false) w' else Go.Sx.CallsV Go.Proofs.Try.prog (29 : Nat) #[Go.Value.string (ByteArray.mk #[(111 : UInt8), (117 :
 UInt8), (116 : UInt8)])] w' fun (v : Go.Value) (w' : Go.World) => ∃ (x_24 : Int), ∃ (x_25 : Int), ∃ (x_26 : ByteArray), v = Go.Value.agg #[Go.Value.int Go.IntKind.u8 x_24, Go.Value.int Go.IntKind.i64
 x_25, Go.Value.string x_26] ∧ ∃ (ad : Go.Addr), x = Option.some ad ∧ ((0 : Int) ≤ (0 : Int) ∧ (0 : Int) < (↑x_21 : Int)) ∧ Go.Sx.stOK (Go.Addr.add ad (Int.toNat (0 : Int) * (3 : Nat))) (0 : Nat)
 [Go.Value.int Go.IntKind.u8 x_24, Go.Value.int Go.IntKind.i64 x_25, Go.Value.string x_26] w' ∧ ∀ (w'_8 : Go.World), w'_8 = Go.Sx.setAll (Go.Addr.add ad (Int.toNat (0 : Int) * (3 : Nat))) (0 : Nat)
 [Go.Value.int Go.IntKind.u8 x_24, Go.Value.int Go.IntKind.i64 x_25, Go.Value.string x_26] w' → Go.Sx.CallsV Go.Proofs.Try.prog (22 : Nat) #[Go.Value.pointer x_7] w'_8 fun (v : Go.Value) (w' : Go.World)
 => ∃ (x : Option Go.Addr), ∃ (x_27 : Nat), ∃ (x_28 : Nat), ∃ (x_29 : Bool), v = Go.Value.tuple #[Go.Value.slice x x_27 x_28, Go.Value.bool x_29] ∧ Go.Sx.CallsV Go.Proofs.Try.prog (24 : Nat)
 #[Go.Value.pointer x_7] w' fun (v : Go.Value) (w' : Go.World) => ∃ (x : Int), v = Go.Value.int Go.IntKind.i64 x ∧ Go.Sx.CallsV Go.Proofs.Try.prog (22 : Nat) #[Go.Value.pointer x_7] w' fun (v :
 Go.Value) (w' : Go.World) => ∃ (x : Option Go.Addr), ∃ (x_30 : Nat), ∃ (x_31 : Nat), ∃ (x_32 : Bool), v = Go.Value.tuple #[Go.Value.slice x x_30 x_31, Go.Value.bool x_32] ∧ Go.Sx.CallsV
 Go.Proofs.Try.prog (14 : Nat) #[Go.Value.slice Option.none (0 : Nat) (0 : Nat), Go.Value.bool Bool.true] w' fun (v : Go.Value) (w' : Go.World) => ∃ (x : Option Go.Addr), ∃ (x_33 : Int), v =
 Go.Value.tuple #[Go.Value.pointer x, Go.Value.int Go.IntKind.i64 x_33] ∧ ∃ (I : Int → Go.World → Prop), ∃ (μ : Int → Go.World → Nat), I (0 : Int) w' ∧ ∀ (x_34 : Int) (w : Go.World), I x_34 w → bif
 Decidable.decide (x_34 < (65536 : Int)) then Go.Sx.CallsV Go.Proofs.Try.prog (18 : Nat) #[Go.Value.pointer x, Go.Value.slice Option.none (0 : Nat) (0 : Nat), Go.Value.slice Option.none (0 : Nat) (0 :
 Nat)] w fun (v : Go.Value) (w' : Go.World) => ∃ (x : Int), v = Go.Value.int Go.IntKind.i64 x ∧ bif !Decidable.decide (x = (0 : Int)) then K (Go.Value.bool Bool.false) w' else I (Go.IntKind.wrap
 Go.IntKind.i64 (x_34 + (1 : Int))) w' ∧ μ (Go.IntKind.wrap Go.IntKind.i64 (x_34 + (1 : Int))) w' < μ x_34 w else Go.Sx.CallsV Go.Proofs.Try.prog (18 : Nat) #[Go.Value.pointer x, Go.Value.slice
 Option.none (0 : Nat) (0 : Nat), Go.Value.slice Option.none (0 : Nat) (0 : Nat)] w fun (v : Go.Value) (w' : Go.World) => ∃ (x_35 : Int), v = Go.Value.int Go.IntKind.i64 x_35 ∧ Go.Sx.CallsV
 Go.Proofs.Try.prog (26 : Nat) #[Go.Value.pointer x] w' fun (v : Go.Value) (w' : Go.World) => ∃ (x_36 : Int), v = Go.Value.int Go.IntKind.i64 x_36 ∧ Go.Sx.CallsV Go.Proofs.Try.prog (20 : Nat)
 #[Go.Value.pointer x] w' fun (v : Go.Value) (w' : Go.World) => ∃ (x : Int), v = Go.Value.int Go.IntKind.i64 x ∧ K (Go.Value.bool Bool.false) (Go.World.drew w') else Go.Sx.CallsV Go.Proofs.Try.prog (29
 : Nat) #[Go.Value.string (ByteArray.mk #[(105 : UInt8), (110 : UInt8)])] w' fun (v : Go.Value) (w' : Go.World) => ∃ (x : Int), ∃ (x_17 : Int), ∃ (x_18 : ByteArray), v = Go.Value.agg #[Go.Value.int
 Go.IntKind.u8 x, Go.Value.int Go.IntKind.i64 x_17, Go.Value.string x_18] ∧ ∀ (g_2 : Nat) (w'_6 : Go.World), Go.Sx.Fresh w' g_2 w'_6 [Go.Value.int Go.IntKind.u8 x, Go.Value.int Go.IntKind.i64 x_17,
 Go.Value.string x_18] (31 : Nat) → Go.Sx.CallsV Go.Proofs.Try.prog (18 : Nat) #[Go.Value.pointer x_7, Go.Value.slice (Option.some (Go.Addr.mk g (0 : Nat) Option.none)) (1 : Nat) (1 : Nat),
 Go.Value.slice (Option.some (Go.Addr.mk g_2 (0 : Nat) Option.none)) (1 : Nat) (1 : Nat)] w'_6 fun (v : Go.Value) (w' : Go.World) => ∃ (x : Int), v = Go.Value.int Go.IntKind.i64 x ∧ Go.Sx.CallsV
 Go.Proofs.Try.prog (29 : Nat) #[Go.Value.string (ByteArray.mk #[(111 : UInt8), (117 : UInt8), (116 : UInt8)])] w' fun (v : Go.Value) (w' : Go.World) => ∃ (x : Int), ∃ (x_19 : Int), ∃ (x_20 :
 ByteArray), v = Go.Value.agg #[Go.Value.int Go.IntKind.u8 x, Go.Value.int Go.IntKind.i64 x_19, Go.Value.string x_20] ∧ ∃ (ad : Go.Addr), Option.some (Go.Addr.mk g_2 (0 : Nat) Option.none) = Option.some
 ad ∧ ((0 : Int) ≤ (0 : Int) ∧ (0 : Int) < (↑(1 : Nat) : Int)) ∧ Go.Sx.stOK (Go.Addr.add ad (Int.toNat (0 : Int) * (3 : Nat))) (0 : Nat) [Go.Value.int Go.IntKind.u8 x, Go.Value.int Go.IntKind.i64 x_19,
 Go.Value.string x_20] w' ∧ ∀ (w'_7 : Go.World), w'_7 = Go.Sx.setAll (Go.Addr.add ad (Int.toNat (0 : Int) * (3 : Nat))) (0 : Nat) [Go.Value.int Go.IntKind.u8 x, Go.Value.int Go.IntKind.i64 x_19,
 Go.Value.string x_20] w' → Go.Sx.CallsV Go.Proofs.Try.prog (20 : Nat) #[Go.Value.pointer x_7] w'_7 fun (v : Go.Value) (w' : Go.World) => ∃ (x : Int), v = Go.Value.int Go.IntKind.i64 x ∧ Go.Sx.CallsV
 Go.Proofs.Try.prog (20 : Nat) #[Go.Value.pointer x_7] w' fun (v : Go.Value) (w' : Go.World) => ∃ (x : Int), v = Go.Value.int Go.IntKind.i64 x ∧ Go.Sx.CallsV Go.Proofs.Try.prog (22 : Nat)
 #[Go.Value.pointer x_7] w' fun (v : Go.Value) (w' : Go.World) => ∃ (x : Option Go.Addr), ∃ (x_21 : Nat), ∃ (x_22 : Nat), ∃ (x_23 : Bool), v = Go.Value.tuple #[Go.Value.slice x x_21 x_22, Go.Value.bool
 x_23] ∧ bif !Decidable.decide ((↑x_21 : Int) = (1 : Int)) then K (Go.Value.bool Bool.false) w' else Go.Sx.CallsV Go.Proofs.Try.prog (29 : Nat) #[Go.Value.string (ByteArray.mk #[(111 : UInt8), (117 :
 UInt8), (116 : UInt8)])] w' fun (v : Go.Value) (w' : Go.World) => ∃ (x_24 : Int), ∃ (x_25 : Int), ∃ (x_26 : ByteArray), v = Go.Value.agg #[Go.Value.int Go.IntKind.u8 x_24, Go.Value.int Go.IntKind.i64
 x_25, Go.Value.string x_26] ∧ ∃ (ad : Go.Addr), x = Option.some ad ∧ ((0 : Int) ≤ (0 : Int) ∧ (0 : Int) < (↑x_21 : Int)) ∧ Go.Sx.stOK (Go.Addr.add ad (Int.toNat (0 : Int) * (3 : Nat))) (0 : Nat)
 [Go.Value.int Go.IntKind.u8 x_24, Go.Value.int Go.IntKind.i64 x_25, Go.Value.string x_26] w' ∧ ∀ (w'_8 : Go.World), w'_8 = Go.Sx.setAll (Go.Addr.add ad (Int.toNat (0 : Int) * (3 : Nat))) (0 : Nat)
 [Go.Value.int Go.IntKind.u8 x_24, Go.Value.int Go.IntKind.i64 x_25, Go.Value.string x_26] w' → Go.Sx.CallsV Go.Proofs.Try.prog (22 : Nat) #[Go.Value.pointer x_7] w'_8 fun (v : Go.Value) (w' : Go.World)
 => ∃ (x : Option Go.Addr), ∃ (x_27 : Nat), ∃ (x_28 : Nat), ∃ (x_29 : Bool), v = Go.Value.tuple #[Go.Value.slice x x_27 x_28, Go.Value.bool x_29] ∧ Go.Sx.CallsV Go.Proofs.Try.prog (24 : Nat)
 #[Go.Value.pointer x_7] w' fun (v : Go.Value) (w' : Go.World) => ∃ (x : Int), v = Go.Value.int Go.IntKind.i64 x ∧ Go.Sx.CallsV Go.Proofs.Try.prog (22 : Nat) #[Go.Value.pointer x_7] w' fun (v :
 Go.Value) (w' : Go.World) => ∃ (x : Option Go.Addr), ∃ (x_30 : Nat), ∃ (x_31 : Nat), ∃ (x_32 : Bool), v = Go.Value.tuple #[Go.Value.slice x x_30 x_31, Go.Value.bool x_32] ∧ Go.Sx.CallsV
 Go.Proofs.Try.prog (14 : Nat) #[Go.Value.slice Option.none (0 : Nat) (0 : Nat), Go.Value.bool Bool.true] w' fun (v : Go.Value) (w' : Go.World) => ∃ (x : Option Go.Addr), ∃ (x_33 : Int), v =
 Go.Value.tuple #[Go.Value.pointer x, Go.Value.int Go.IntKind.i64 x_33] ∧ ∃ (I : Int → Go.World → Prop), ∃ (μ : Int → Go.World → Nat), I (0 : Int) w' ∧ ∀ (x_34 : Int) (w : Go.World), I x_34 w → bif
 Decidable.decide (x_34 < (65536 : Int)) then Go.Sx.CallsV Go.Proofs.Try.prog (18 : Nat) #[Go.Value.pointer x, Go.Value.slice Option.none (0 : Nat) (0 : Nat), Go.Value.slice Option.none (0 : Nat) (0 :
 Nat)] w fun (v : Go.Value) (w' : Go.World) => ∃ (x : Int), v = Go.Value.int Go.IntKind.i64 x ∧ bif !Decidable.decide (x = (0 : Int)) then K (Go.Value.bool Bool.false) w' else I (Go.IntKind.wrap
 Go.IntKind.i64 (x_34 + (1 : Int))) w' ∧ μ (Go.IntKind.wrap Go.IntKind.i64 (x_34 + (1 : Int))) w' < μ x_34 w else Go.Sx.CallsV Go.Proofs.Try.prog (18 : Nat) #[Go.Value.pointer x, Go.Value.slice
 Option.none (0 : Nat) (0 : Nat), Go.Value.slice Option.none (0 : Nat) (0 : Nat)] w fun (v : Go.Value) (w' : Go.World) => ∃ (x_35 : Int), v = Go.Value.int Go.IntKind.i64 x_35 ∧ Go.Sx.CallsV
 Go.Proofs.Try.prog (26 : Nat) #[Go.Value.pointer x] w' fun (v : Go.Value) (w' : Go.World) => ∃ (x_36 : Int), v = Go.Value.int Go.IntKind.i64 x_36 ∧ Go.Sx.CallsV Go.Proofs.Try.prog (20 : Nat)
 #[Go.Value.pointer x] w' fun (v : Go.Value) (w' : Go.World) => ∃ (x : Int), v = Go.Value.int Go.IntKind.i64 x ∧ K (Go.Value.bool Bool.false) (Go.World.drew w')) ∧ ∃ (x : Option Go.Addr), ∃ (x_14 :
 Nat), ∃ (x_15 : Nat), ∃ (w'_5 : Go.World), Go.Sx.RunsTo Go.Proofs.Try.prog (Go.Instr.makeSlice (32 : Nat) (Go.Value.int Go.IntKind.i64 (16 : Int)) (Go.Value.int Go.IntKind.i64 (16 : Int))) w'
 (Go.Value.slice x x_14 x_15) w'_5 ∧ ∃ (I : Int → Go.World → Prop), ∃ (μ : Int → Go.World → Nat), I (0 : Int) w'_5 ∧ ∀ (x_16 : Int) (w : Go.World), I x_16 w → bif Decidable.decide (x_16 < (↑x_14 : Int))
 then Go.Sx.CallsV Go.Proofs.Try.prog (30 : Nat) #[Go.Value.string (ByteArray.mk #[(120 : UInt8)]), Go.Value.int Go.IntKind.i64 (65536 : Int)] w fun (v : Go.Value) (w' : Go.World) => ∃ (x_17 :
 ByteArray), v = Go.Value.string x_17 ∧ Go.Sx.CallsV Go.Proofs.Try.prog (29 : Nat) #[Go.Value.string x_17] w' fun (v : Go.Value) (w' : Go.World) => ∃ (x_18 : Int), ∃ (x_19 : Int), ∃ (x_20 : ByteArray),
 v = Go.Value.agg #[Go.Value.int Go.IntKind.u8 x_18, Go.Value.int Go.IntKind.i64 x_19, Go.Value.string x_20] ∧ ∃ (ad : Go.Addr), x = Option.some ad ∧ ((0 : Int) ≤ x_16 ∧ x_16 < (↑x_14 : Int)) ∧
 Go.Sx.stOK (Go.Addr.add ad (Int.toNat x_16 * (3 : Nat))) (0 : Nat) [Go.Value.int Go.IntKind.u8 x_18, Go.Value.int Go.IntKind.i64 x_19, Go.Value.string x_20] w' ∧ ∀ (w'_6 : Go.World), w'_6 =
 Go.Sx.setAll (Go.Addr.add ad (Int.toNat x_16 * (3 : Nat))) (0 : Nat) [Go.Value.int Go.IntKind.u8 x_18, Go.Value.int Go.IntKind.i64 x_19, Go.Value.string x_20] w' → I (Go.IntKind.wrap Go.IntKind.i64
 (x_16 + (1 : Int))) w'_6 ∧ μ (Go.IntKind.wrap Go.IntKind.i64 (x_16 + (1 : Int))) w'_6 < μ x_16 w else Go.Sx.CallsV Go.Proofs.Try.prog (18 : Nat) #[Go.Value.pointer x_7, Go.Value.slice (Option.some
 (Go.Addr.mk g (0 : Nat) Option.none)) (1 : Nat) (1 : Nat), Go.Value.slice x x_14 x_15] w fun (v : Go.Value) (w' : Go.World) => ∃ (x : Int), v = Go.Value.int Go.IntKind.i64 x ∧ bif Decidable.decide (x =
 (3 : Int)) then Go.Sx.CallsV Go.Proofs.Try.prog (26 : Nat) #[Go.Value.pointer x_7] w' fun (v : Go.Value) (w' : Go.World) => ∃ (x : Int), v = Go.Value.int Go.IntKind.i64 x ∧ bif Decidable.decide (x = (0
 : Int)) then Go.Sx.CallsV Go.Proofs.Try.prog (24 : Nat) #[Go.Value.pointer x_7] w' fun (v : Go.Value) (w' : Go.World) => ∃ (x : Int), v = Go.Value.int Go.IntKind.i64 x ∧ Go.Sx.CallsV Go.Proofs.Try.prog
 (29 : Nat) #[Go.Value.string (ByteArray.mk #[(105 : UInt8), (110 : UInt8)])] w' fun (v : Go.Value) (w' : Go.World) => ∃ (x : Int), ∃ (x_17 : Int), ∃ (x_18 : ByteArray), v = Go.Value.agg #[Go.Value.int
 Go.IntKind.u8 x, Go.Value.int Go.IntKind.i64 x_17, Go.Value.string x_18] ∧ ∀ (g_2 : Nat) (w'_6 : Go.World), Go.Sx.Fresh w' g_2 w'_6 [Go.Value.int Go.IntKind.u8 x, Go.Value.int Go.IntKind.i64 x_17,
 Go.Value.string x_18] (31 : Nat) → Go.Sx.CallsV Go.Proofs.Try.prog (18 : Nat) #[Go.Value.pointer x_7, Go.Value.slice (Option.some (Go.Addr.mk g (0 : Nat) Option.none)) (1 : Nat) (1 : Nat),
 Go.Value.slice (Option.some (Go.Addr.mk g_2 (0 : Nat) Option.none)) (1 : Nat) (1 : Nat)] w'_6 fun (v : Go.Value) (w' : Go.World) => ∃ (x : Int), v = Go.Value.int Go.IntKind.i64 x ∧ Go.Sx.CallsV
 Go.Proofs.Try.prog (29 : Nat) #[Go.Value.string (ByteArray.mk #[(111 : UInt8), (117 : UInt8), (116 : UInt8)])] w' fun (v : Go.Value) (w' : Go.World) => ∃ (x : Int), ∃ (x_19 : Int), ∃ (x_20 :
 ByteArray), v = Go.Value.agg #[Go.Value.int Go.IntKind.u8 x, Go.Value.int Go.IntKind.i64 x_19, Go.Value.string x_20] ∧ ∃ (ad : Go.Addr), Option.some (Go.Addr.mk g_2 (0 : Nat) Option.none) = Option.some
 ad ∧ ((0 : Int) ≤ (0 : Int) ∧ (0 : Int) < (↑(1 : Nat) : Int)) ∧ Go.Sx.stOK (Go.Addr.add ad (Int.toNat (0 : Int) * (3 : Nat))) (0 : Nat) [Go.Value.int Go.IntKind.u8 x, Go.Value.int Go.IntKind.i64 x_19,
 Go.Value.string x_20] w' ∧ ∀ (w'_7 : Go.World), w'_7 = Go.Sx.setAll (Go.Addr.add ad (Int.toNat (0 : Int) * (3 : Nat))) (0 : Nat) [Go.Value.int Go.IntKind.u8 x, Go.Value.int Go.IntKind.i64 x_19,
 Go.Value.string x_20] w' → Go.Sx.CallsV Go.Proofs.Try.prog (20 : Nat) #[Go.Value.pointer x_7] w'_7 fun (v : Go.Value) (w' : Go.World) => ∃ (x : Int), v = Go.Value.int Go.IntKind.i64 x ∧ Go.Sx.CallsV
 Go.Proofs.Try.prog (20 : Nat) #[Go.Value.pointer x_7] w' fun (v : Go.Value) (w' : Go.World) => ∃ (x : Int), v = Go.Value.int Go.IntKind.i64 x ∧ Go.Sx.CallsV Go.Proofs.Try.prog (22 : Nat)
 #[Go.Value.pointer x_7] w' fun (v : Go.Value) (w' : Go.World) => ∃ (x : Option Go.Addr), ∃ (x_21 : Nat), ∃ (x_22 : Nat), ∃ (x_23 : Bool), v = Go.Value.tuple #[Go.Value.slice x x_21 x_22, Go.Value.bool
 x_23] ∧ bif !Decidable.decide ((↑x_21 : Int) = (1 : Int)) then K (Go.Value.bool Bool.false) w' else Go.Sx.CallsV Go.Proofs.Try.prog (29 : Nat) #[Go.Value.string (ByteArray.mk #[(111 : UInt8), (117 :
 UInt8), (116 : UInt8)])] w' fun (v : Go.Value) (w' : Go.World) => ∃ (x_24 : Int), ∃ (x_25 : Int), ∃ (x_26 : ByteArray), v = Go.Value.agg #[Go.Value.int Go.IntKind.u8 x_24, Go.Value.int Go.IntKind.i64
 x_25, Go.Value.string x_26] ∧ ∃ (ad : Go.Addr), x = Option.some ad ∧ ((0 : Int) ≤ (0 : Int) ∧ (0 : Int) < (↑x_21 : Int)) ∧ Go.Sx.stOK (Go.Addr.add ad (Int.toNat (0 : Int) * (3 : Nat))) (0 : Nat)
 [Go.Value.int Go.IntKind.u8 x_24, Go.Value.int Go.IntKind.i64 x_25, Go.Value.string x_26] w' ∧ ∀ (w'_8 : Go.World), w'_8 = Go.Sx.setAll (Go.Addr.add ad (Int.toNat (0 : Int) * (3 : Nat))) (0 : Nat)
 [Go.Value.int Go.IntKind.u8 x_24, Go.Value.int Go.IntKind.i64 x_25, Go.Value.string x_26] w' → Go.Sx.CallsV Go.Proofs.Try.prog (22 : Nat) #[Go.Value.pointer x_7] w'_8 fun (v : Go.Value) (w' : Go.World)
 => ∃ (x : Option Go.Addr), ∃ (x_27 : Nat), ∃ (x_28 : Nat), ∃ (x_29 : Bool), v = Go.Value.tuple #[Go.Value.slice x x_27 x_28, Go.Value.bool x_29] ∧ Go.Sx.CallsV Go.Proofs.Try.prog (24 : Nat)
 #[Go.Value.pointer x_7] w' fun (v : Go.Value) (w' : Go.World) => ∃ (x : Int), v = Go.Value.int Go.IntKind.i64 x ∧ Go.Sx.CallsV Go.Proofs.Try.prog (22 : Nat) #[Go.Value.pointer x_7] w' fun (v :
 Go.Value) (w' : Go.World) => ∃ (x : Option Go.Addr), ∃ (x_30 : Nat), ∃ (x_31 : Nat), ∃ (x_32 : Bool), v = Go.Value.tuple #[Go.Value.slice x x_30 x_31, Go.Value.bool x_32] ∧ Go.Sx.CallsV
 Go.Proofs.Try.prog (14 : Nat) #[Go.Value.slice Option.none (0 : Nat) (0 : Nat), Go.Value.bool Bool.true] w' fun (v : Go.Value) (w' : Go.World) => ∃ (x : Option Go.Addr), ∃ (x_33 : Int), v =
 Go.Value.tuple #[Go.Value.pointer x, Go.Value.int Go.IntKind.i64 x_33] ∧ ∃ (I : Int → Go.World → Prop), ∃ (μ : Int → Go.World → Nat), I (0 : Int) w' ∧ ∀ (x_34 : Int) (w : Go.World), I x_34 w → bif
 Decidable.decide (x_34 < (65536 : Int)) then Go.Sx.CallsV Go.Proofs.Try.prog (18 : Nat) #[Go.Value.pointer x, Go.Value.slice Option.none (0 : Nat) (0 : Nat), Go.Value.slice Option.none (0 : Nat) (0 :
 Nat)] w fun (v : Go.Value) (w' : Go.World) => ∃ (x : Int), v = Go.Value.int Go.IntKind.i64 x ∧ bif !Decidable.decide (x = (0 : Int)) then K (Go.Value.bool Bool.false) w' else I (Go.IntKind.wrap
 Go.IntKind.i64 (x_34 + (1 : Int))) w' ∧ μ (Go.IntKind.wrap Go.IntKind.i64 (x_34 + (1 : Int))) w' < μ x_34 w else Go.Sx.CallsV Go.Proofs.Try.prog (18 : Nat) #[Go.Value.pointer x, Go.Value.slice
 Option.none (0 : Nat) (0 : Nat), Go.Value.slice Option.none (0 : Nat) (0 : Nat)] w fun (v : Go.Value) (w' : Go.World) => ∃ (x_35 : Int), v = Go.Value.int Go.IntKind.i64 x_35 ∧ Go.Sx.CallsV
 Go.Proofs.Try.prog (26 : Nat) #[Go.Value.pointer x] w' fun (v : Go.Value) (w' : Go.World) => ∃ (x_36 : Int), v = Go.Value.int Go.IntKind.i64 x_36 ∧ Go.Sx.CallsV Go.Proofs.Try.prog (20 : Nat)
 #[Go.Value.pointer x] w' fun (v : Go.Value) (w' : Go.World) => ∃ (x : Int), v = Go.Value.int Go.IntKind.i64 x ∧ K (Go.Value.bool Bool.false) (Go.World.drew w') else Go.Sx.CallsV Go.Proofs.Try.prog (29
 : Nat) #[Go.Value.string (ByteArray.mk #[(105 : UInt8), (110 : UInt8)])] w' fun (v : Go.Value) (w' : Go.World) => ∃ (x : Int), ∃ (x_17 : Int), ∃ (x_18 : ByteArray), v = Go.Value.agg #[Go.Value.int
 Go.IntKind.u8 x, Go.Value.int Go.IntKind.i64 x_17, Go.Value.string x_18] ∧ ∀ (g_2 : Nat) (w'_6 : Go.World), Go.Sx.Fresh w' g_2 w'_6 [Go.Value.int Go.IntKind.u8 x, Go.Value.int Go.IntKind.i64 x_17,
 Go.Value.string x_18] (31 : Nat) → Go.Sx.CallsV Go.Proofs.Try.prog (18 : Nat) #[Go.Value.pointer x_7, Go.Value.slice (Option.some (Go.Addr.mk g (0 : Nat) Option.none)) (1 : Nat) (1 : Nat),
 Go.Value.slice (Option.some (Go.Addr.mk g_2 (0 : Nat) Option.none)) (1 : Nat) (1 : Nat)] w'_6 fun (v : Go.Value) (w' : Go.World) => ∃ (x : Int), v = Go.Value.int Go.IntKind.i64 x ∧ Go.Sx.CallsV
 Go.Proofs.Try.prog (29 : Nat) #[Go.Value.string (ByteArray.mk #[(111 : UInt8), (117 : UInt8), (116 : UInt8)])] w' fun (v : Go.Value) (w' : Go.World) => ∃ (x : Int), ∃ (x_19 : Int), ∃ (x_20 :
 ByteArray), v = Go.Value.agg #[Go.Value.int Go.IntKind.u8 x, Go.Value.int Go.IntKind.i64 x_19, Go.Value.string x_20] ∧ ∃ (ad : Go.Addr), Option.some (Go.Addr.mk g_2 (0 : Nat) Option.none) = Option.some
 ad ∧ ((0 : Int) ≤ (0 : Int) ∧ (0 : Int) < (↑(1 : Nat) : Int)) ∧ Go.Sx.stOK (Go.Addr.add ad (Int.toNat (0 : Int) * (3 : Nat))) (0 : Nat) [Go.Value.int Go.IntKind.u8 x, Go.Value.int Go.IntKind.i64 x_19,
 Go.Value.string x_20] w' ∧ ∀ (w'_7 : Go.World), w'_7 = Go.Sx.setAll (Go.Addr.add ad (Int.toNat (0 : Int) * (3 : Nat))) (0 : Nat) [Go.Value.int Go.IntKind.u8 x, Go.Value.int Go.IntKind.i64 x_19,
 Go.Value.string x_20] w' → Go.Sx.CallsV Go.Proofs.Try.prog (20 : Nat) #[Go.Value.pointer x_7] w'_7 fun (v : Go.Value) (w' : Go.World) => ∃ (x : Int), v = Go.Value.int Go.IntKind.i64 x ∧ Go.Sx.CallsV
 Go.Proofs.Try.prog (20 : Nat) #[Go.Value.pointer x_7] w' fun (v : Go.Value) (w' : Go.World) => ∃ (x : Int), v = Go.Value.int Go.IntKind.i64 x ∧ Go.Sx.CallsV Go.Proofs.Try.prog (22 : Nat)
 #[Go.Value.pointer x_7] w' fun (v : Go.Value) (w' : Go.World) => ∃ (x : Option Go.Addr), ∃ (x_21 : Nat), ∃ (x_22 : Nat), ∃ (x_23 : Bool), v = Go.Value.tuple #[Go.Value.slice x x_21 x_22, Go.Value.bool
 x_23] ∧ bif !Decidable.decide ((↑x_21 : Int) = (1 : Int)) then K (Go.Value.bool Bool.false) w' else Go.Sx.CallsV Go.Proofs.Try.prog (29 : Nat) #[Go.Value.string (ByteArray.mk #[(111 : UInt8), (117 :
 UInt8), (116 : UInt8)])] w' fun (v : Go.Value) (w' : Go.World) => ∃ (x_24 : Int), ∃ (x_25 : Int), ∃ (x_26 : ByteArray), v = Go.Value.agg #[Go.Value.int Go.IntKind.u8 x_24, Go.Value.int Go.IntKind.i64
 x_25, Go.Value.string x_26] ∧ ∃ (ad : Go.Addr), x = Option.some ad ∧ ((0 : Int) ≤ (0 : Int) ∧ (0 : Int) < (↑x_21 : Int)) ∧ Go.Sx.stOK (Go.Addr.add ad (Int.toNat (0 : Int) * (3 : Nat))) (0 : Nat)
 [Go.Value.int Go.IntKind.u8 x_24, Go.Value.int Go.IntKind.i64 x_25, Go.Value.string x_26] w' ∧ ∀ (w'_8 : Go.World), w'_8 = Go.Sx.setAll (Go.Addr.add ad (Int.toNat (0 : Int) * (3 : Nat))) (0 : Nat)
 [Go.Value.int Go.IntKind.u8 x_24, Go.Value.int Go.IntKind.i64 x_25, Go.Value.string x_26] w' → Go.Sx.CallsV Go.Proofs.Try.prog (22 : Nat) #[Go.Value.pointer x_7] w'_8 fun (v : Go.Value) (w' : Go.World)
 => ∃ (x : Option Go.Addr), ∃ (x_27 : Nat), ∃ (x_28 : Nat), ∃ (x_29 : Bool), v = Go.Value.tuple #[Go.Value.slice x x_27 x_28, Go.Value.bool x_29] ∧ Go.Sx.CallsV Go.Proofs.Try.prog (24 : Nat)
 #[Go.Value.pointer x_7] w' fun (v : Go.Value) (w' : Go.World) => ∃ (x : Int), v = Go.Value.int Go.IntKind.i64 x ∧ Go.Sx.CallsV Go.Proofs.Try.prog (22 : Nat) #[Go.Value.pointer x_7] w' fun (v :
 Go.Value) (w' : Go.World) => ∃ (x : Option Go.Addr), ∃ (x_30 : Nat), ∃ (x_31 : Nat), ∃ (x_32 : Bool), v = Go.Value.tuple #[Go.Value.slice x x_30 x_31, Go.Value.bool x_32] ∧ Go.Sx.CallsV
 Go.Proofs.Try.prog (14 : Nat) #[Go.Value.slice Option.none (0 : Nat) (0 : Nat), Go.Value.bool Bool.true] w' fun (v : Go.Value) (w' : Go.World) => ∃ (x : Option Go.Addr), ∃ (x_33 : Int), v =
 Go.Value.tuple #[Go.Value.pointer x, Go.Value.int Go.IntKind.i64 x_33] ∧ ∃ (I : Int → Go.World → Prop), ∃ (μ : Int → Go.World → Nat), I (0 : Int) w' ∧ ∀ (x_34 : Int) (w : Go.World), I x_34 w → bif
 Decidable.decide (x_34 < (65536 : Int)) then Go.Sx.CallsV Go.Proofs.Try.prog (18 : Nat) #[Go.Value.pointer x, Go.Value.slice Option.none (0 : Nat) (0 : Nat), Go.Value.slice Option.none (0 : Nat) (0 :
 Nat)] w fun (v : Go.Value) (w' : Go.World) => ∃ (x : Int), v = Go.Value.int Go.IntKind.i64 x ∧ bif !Decidable.decide (x = (0 : Int)) then K (Go.Value.bool Bool.false) w' else I (Go.IntKind.wrap
 Go.IntKind.i64 (x_34 + (1 : Int))) w' ∧ μ (Go.IntKind.wrap Go.IntKind.i64 (x_34 + (1 : Int))) w' < μ x_34 w else Go.Sx.CallsV Go.Proofs.Try.prog (18 : Nat) #[Go.Value.pointer x, Go.Value.slice
 Option.none (0 : Nat) (0 : Nat), Go.Value.slice Option.none (0 : Nat) (0 : Nat)] w fun (v : Go.Value) (w' : Go.World) => ∃ (x_35 : Int), v = Go.Value.int Go.IntKind.i64 x_35 ∧ Go.Sx.CallsV
 Go.Proofs.Try.prog (26 : Nat) #[Go.Value.pointer x] w' fun (v : Go.Value) (w' : Go.World) => ∃ (x_36 : Int), v = Go.Value.int Go.IntKind.i64 x_36 ∧ Go.Sx.CallsV Go.Proofs.Try.prog (20 : Nat)
 #[Go.Value.pointer x] w' fun (v : Go.Value) (w' : Go.World) => ∃ (x : Int), v = Go.Value.int Go.IntKind.i64 x ∧ K (Go.Value.bool Bool.false) (Go.World.drew w') else Go.Sx.CallsV Go.Proofs.Try.prog (29
 : Nat) #[Go.Value.string (ByteArray.mk #[(105 : UInt8), (110 : UInt8)])] w' fun (v : Go.Value) (w' : Go.World) => ∃ (x : Int), ∃ (x_17 : Int), ∃ (x_18 : ByteArray), v = Go.Value.agg #[Go.Value.int
 Go.IntKind.u8 x, Go.Value.int Go.IntKind.i64 x_17, Go.Value.string x_18] ∧ ∀ (g_2 : Nat) (w'_6 : Go.World), Go.Sx.Fresh w' g_2 w'_6 [Go.Value.int Go.IntKind.u8 x, Go.Value.int Go.IntKind.i64 x_17,
 Go.Value.string x_18] (31 : Nat) → Go.Sx.CallsV Go.Proofs.Try.prog (18 : Nat) #[Go.Value.pointer x_7, Go.Value.slice (Option.some (Go.Addr.mk g (0 : Nat) Option.none)) (1 : Nat) (1 : Nat),
 Go.Value.slice (Option.some (Go.Addr.mk g_2 (0 : Nat) Option.none)) (1 : Nat) (1 : Nat)] w'_6 fun (v : Go.Value) (w' : Go.World) => ∃ (x : Int), v = Go.Value.int Go.IntKind.i64 x ∧ Go.Sx.CallsV
 Go.Proofs.Try.prog (29 : Nat) #[Go.Value.string (ByteArray.mk #[(111 : UInt8), (117 : UInt8), (116 : UInt8)])] w' fun (v : Go.Value) (w' : Go.World) => ∃ (x : Int), ∃ (x_19 : Int), ∃ (x_20 :
 ByteArray), v = Go.Value.agg #[Go.Value.int Go.IntKind.u8 x, Go.Value.int Go.IntKind.i64 x_19, Go.Value.string x_20] ∧ ∃ (ad : Go.Addr), Option.some (Go.Addr.mk g_2 (0 : Nat) Option.none) = Option.some
 ad ∧ ((0 : Int) ≤ (0 : Int) ∧ (0 : Int) < (↑(1 : Nat) : Int)) ∧ Go.Sx.stOK (Go.Addr.add ad (Int.toNat (0 : Int) * (3 : Nat))) (0 : Nat) [Go.Value.int Go.IntKind.u8 x, Go.Value.int Go.IntKind.i64 x_19,
 Go.Value.string x_20] w' ∧ ∀ (w'_7 : Go.World), w'_7 = Go.Sx.setAll (Go.Addr.add ad (Int.toNat (0 : Int) * (3 : Nat))) (0 : Nat) [Go.Value.int Go.IntKind.u8 x, Go.Value.int Go.IntKind.i64 x_19,
 Go.Value.string x_20] w' → Go.Sx.CallsV Go.Proofs.Try.prog (20 : Nat) #[Go.Value.pointer x_7] w'_7 fun (v : Go.Value) (w' : Go.World) => ∃ (x : Int), v = Go.Value.int Go.IntKind.i64 x ∧ Go.Sx.CallsV
 Go.Proofs.Try.prog (20 : Nat) #[Go.Value.pointer x_7] w' fun (v : Go.Value) (w' : Go.World) => ∃ (x : Int), v = Go.Value.int Go.IntKind.i64 x ∧ Go.Sx.CallsV Go.Proofs.Try.prog (22 : Nat)
 #[Go.Value.pointer x_7] w' fun (v : Go.Value) (w' : Go.World) => ∃ (x : Option Go.Addr), ∃ (x_21 : Nat), ∃ (x_22 : Nat), ∃ (x_23 : Bool), v = Go.Value.tuple #[Go.Value.slice x x_21 x_22, Go.Value.bool
 x_23] ∧ bif !Decidable.decide ((↑x_21 : Int) = (1 : Int)) then K (Go.Value.bool Bool.false) w' else Go.Sx.CallsV Go.Proofs.Try.prog (29 : Nat) #[Go.Value.string (ByteArray.mk #[(111 : UInt8), (117 :
 UInt8), (116 : UInt8)])] w' fun (v : Go.Value) (w' : Go.World) => ∃ (x_24 : Int), ∃ (x_25 : Int), ∃ (x_26 : ByteArray), v = Go.Value.agg #[Go.Value.int Go.IntKind.u8 x_24, Go.Value.int Go.IntKind.i64
 x_25, Go.Value.string x_26] ∧ ∃ (ad : Go.Addr), x = Option.some ad ∧ ((0 : Int) ≤ (0 : Int) ∧ (0 : Int) < (↑x_21 : Int)) ∧ Go.Sx.stOK (Go.Addr.add ad (Int.toNat (0 : Int) * (3 : Nat))) (0 : Nat)
 [Go.Value.int Go.IntKind.u8 x_24, Go.Value.int Go.IntKind.i64 x_25, Go.Value.string x_26] w' ∧ ∀ (w'_8 : Go.World), w'_8 = Go.Sx.setAll (Go.Addr.add ad (Int.toNat (0 : Int) * (3 : Nat))) (0 : Nat)
 [Go.Value.int Go.IntKind.u8 x_24, Go.Value.int Go.IntKind.i64 x_25, Go.Value.string x_26] w' → Go.Sx.CallsV Go.Proofs.Try.prog (22 : Nat) #[Go.Value.pointer x_7] w'_8 fun (v : Go.Value) (w' : Go.World)
 => ∃ (x : Option Go.Addr), ∃ (x_27 : Nat), ∃ (x_28 : Nat), ∃ (x_29 : Bool), v = Go.Value.tuple #[Go.Value.slice x x_27 x_28, Go.Value.bool x_29] ∧ Go.Sx.CallsV Go.Proofs.Try.prog (24 : Nat)
 #[Go.Value.pointer x_7] w' fun (v : Go.Value) (w' : Go.World) => ∃ (x : Int), v = Go.Value.int Go.IntKind.i64 x ∧ Go.Sx.CallsV Go.Proofs.Try.prog (22 : Nat) #[Go.Value.pointer x_7] w' fun (v :
 Go.Value) (w' : Go.World) => ∃ (x : Option Go.Addr), ∃ (x_30 : Nat), ∃ (x_31 : Nat), ∃ (x_32 : Bool), v = Go.Value.tuple #[Go.Value.slice x x_30 x_31, Go.Value.bool x_32] ∧ Go.Sx.CallsV
 Go.Proofs.Try.prog (14 : Nat) #[Go.Value.slice Option.none (0 : Nat) (0 : Nat), Go.Value.bool Bool.true] w' fun (v : Go.Value) (w' : Go.World) => ∃ (x : Option Go.Addr), ∃ (x_33 : Int), v =
 Go.Value.tuple #[Go.Value.pointer x, Go.Value.int Go.IntKind.i64 x_33] ∧ ∃ (I : Int → Go.World → Prop), ∃ (μ : Int → Go.World → Nat), I (0 : Int) w' ∧ ∀ (x_34 : Int) (w : Go.World), I x_34 w → bif
 Decidable.decide (x_34 < (65536 : Int)) then Go.Sx.CallsV Go.Proofs.Try.prog (18 : Nat) #[Go.Value.pointer x, Go.Value.slice Option.none (0 : Nat) (0 : Nat), Go.Value.slice Option.none (0 : Nat) (0 :
 Nat)] w fun (v : Go.Value) (w' : Go.World) => ∃ (x : Int), v = Go.Value.int Go.IntKind.i64 x ∧ bif !Decidable.decide (x = (0 : Int)) then K (Go.Value.bool Bool.false) w' else I (Go.IntKind.wrap
 Go.IntKind.i64 (x_34 + (1 : Int))) w' ∧ μ (Go.IntKind.wrap Go.IntKind.i64 (x_34 + (1 : Int))) w' < μ x_34 w else Go.Sx.CallsV Go.Proofs.Try.prog (18 : Nat) #[Go.Value.pointer x, Go.Value.slice
 Option.none (0 : Nat) (0 : Nat), Go.Value.slice Option.none (0 : Nat) (0 : Nat)] w fun (v : Go.Value) (w' : Go.World) => ∃ (x_35 : Int), v = Go.Value.int Go.IntKind.i64 x_35 ∧ Go.Sx.CallsV
 Go.Proofs.Try.prog (26 : Nat) #[Go.Value.pointer x] w' fun (v : Go.Value) (w' : Go.World) => ∃ (x_36 : Int), v = Go.Value.int Go.IntKind.i64 x_36 ∧ Go.Sx.CallsV Go.Proofs.Try.prog (20 : Nat)
 #[Go.Value.pointer x] w' fun (v : Go.Value) (w' : Go.World) => ∃ (x : Int), v = Go.Value.int Go.IntKind.i64 x ∧ K (Go.Value.bool Bool.false) (Go.World.drew w') else (∃ (x : Option Go.Addr), ∃ (x_13 :
 Nat), ∃ (x_14 : Nat), ∃ (w'_4 : Go.World), Go.Sx.RunsTo Go.Proofs.Try.prog (Go.Instr.makeSlice (32 : Nat) (Go.Value.int Go.IntKind.i64 (16 : Int)) (Go.Value.int Go.IntKind.i64 (16 : Int))) w'
 (Go.Value.slice x x_13 x_14) w'_4 ∧ ∃ (I : Int → Go.World → Prop), ∃ (μ : Int → Go.World → Nat), I (0 : Int) w'_4 ∧ ∀ (x_15 : Int) (w : Go.World), I x_15 w → bif Decidable.decide (x_15 < (↑x_13 : Int))
 then Go.Sx.CallsV Go.Proofs.Try.prog (30 : Nat) #[Go.Value.string (ByteArray.mk #[(120 : UInt8)]), Go.Value.int Go.IntKind.i64 (65536 : Int)] w fun (v : Go.Value) (w' : Go.World) => ∃ (x_16 :
 ByteArray), v = Go.Value.string x_16 ∧ Go.Sx.CallsV Go.Proofs.Try.prog (29 : Nat) #[Go.Value.string x_16] w' fun (v : Go.Value) (w' : Go.World) => ∃ (x_17 : Int), ∃ (x_18 : Int), ∃ (x_19 : ByteArray),
 v = Go.Value.agg #[Go.Value.int Go.IntKind.u8 x_17, Go.Value.int Go.IntKind.i64 x_18, Go.Value.string x_19] ∧ ∃ (ad : Go.Addr), x = Option.some ad ∧ ((0 : Int) ≤ x_15 ∧ x_15 < (↑x_13 : Int)) ∧
 Go.Sx.stOK (Go.Addr.add ad (Int.toNat x_15 * (3 : Nat))) (0 : Nat) [Go.Value.int Go.IntKind.u8 x_17, Go.Value.int Go.IntKind.i64 x_18, Go.Value.string x_19] w' ∧ ∀ (w'_5 : Go.World), w'_5 =
 Go.Sx.setAll (Go.Addr.add ad (Int.toNat x_15 * (3 : Nat))) (0 : Nat) [Go.Value.int Go.IntKind.u8 x_17, Go.Value.int Go.IntKind.i64 x_18, Go.Value.string x_19] w' → I (Go.IntKind.wrap Go.IntKind.i64
 (x_15 + (1 : Int))) w'_5 ∧ μ (Go.IntKind.wrap Go.IntKind.i64 (x_15 + (1 : Int))) w'_5 < μ x_15 w else Go.Sx.CallsV Go.Proofs.Try.prog (18 : Nat) #[Go.Value.pointer x_7, Go.Value.slice (Option.some
 (Go.Addr.mk g (0 : Nat) Option.none)) (1 : Nat) (1 : Nat), Go.Value.slice x x_13 x_14] w fun (v : Go.Value) (w' : Go.World) => ∃ (x : Int), v = Go.Value.int Go.IntKind.i64 x ∧ bif Decidable.decide (x =
 (3 : Int)) then Go.Sx.CallsV Go.Proofs.Try.prog (26 : Nat) #[Go.Value.pointer x_7] w' fun (v : Go.Value) (w' : Go.World) => ∃ (x : Int), v = Go.Value.int Go.IntKind.i64 x ∧ bif Decidable.decide (x = (0
 : Int)) then Go.Sx.CallsV Go.Proofs.Try.prog (24 : Nat) #[Go.Value.pointer x_7] w' fun (v : Go.Value) (w' : Go.World) => ∃ (x : Int), v = Go.Value.int Go.IntKind.i64 x ∧ Go.Sx.CallsV Go.Proofs.Try.prog
 (29 : Nat) #[Go.Value.string (ByteArray.mk #[(105 : UInt8), (110 : UInt8)])] w' fun (v : Go.Value) (w' : Go.World) => ∃ (x : Int), ∃ (x_16 : Int), ∃ (x_17 : ByteArray), v = Go.Value.agg #[Go.Value.int
 Go.IntKind.u8 x, Go.Value.int Go.IntKind.i64 x_16, Go.Value.string x_17] ∧ ∀ (g_1 : Nat) (w'_5 : Go.World), Go.Sx.Fresh w' g_1 w'_5 [Go.Value.int Go.IntKind.u8 x, Go.Value.int Go.IntKind.i64 x_16,
 Go.Value.string x_17] (31 : Nat) → Go.Sx.CallsV Go.Proofs.Try.prog (18 : Nat) #[Go.Value.pointer x_7, Go.Value.slice (Option.some (Go.Addr.mk g (0 : Nat) Option.none)) (1 : Nat) (1 : Nat),
 Go.Value.slice (Option.some (Go.Addr.mk g_1 (0 : Nat) Option.none)) (1 : Nat) (1 : Nat)] w'_5 fun (v : Go.Value) (w' : Go.World) => ∃ (x : Int), v = Go.Value.int Go.IntKind.i64 x ∧ Go.Sx.CallsV
 Go.Proofs.Try.prog (29 : Nat) #[Go.Value.string (ByteArray.mk #[(111 : UInt8), (117 : UInt8), (116 : UInt8)])] w' fun (v : Go.Value) (w' : Go.World) => ∃ (x : Int), ∃ (x_18 : Int), ∃ (x_19 :
 ByteArray), v = Go.Value.agg #[Go.Value.int Go.IntKind.u8 x, Go.Value.int Go.IntKind.i64 x_18, Go.Value.string x_19] ∧ ∃ (ad : Go.Addr), Option.some (Go.Addr.mk g_1 (0 : Nat) Option.none) = Option.some
 ad ∧ ((0 : Int) ≤ (0 : Int) ∧ (0 : Int) < (↑(1 : Nat) : Int)) ∧ Go.Sx.stOK (Go.Addr.add ad (Int.toNat (0 : Int) * (3 : Nat))) (0 : Nat) [Go.Value.int Go.IntKind.u8 x, Go.Value.int Go.IntKind.i64 x_18,
 Go.Value.string x_19] w' ∧ ∀ (w'_6 : Go.World), w'_6 = Go.Sx.setAll (Go.Addr.add ad (Int.toNat (0 : Int) * (3 : Nat))) (0 : Nat) [Go.Value.int Go.IntKind.u8 x, Go.Value.int Go.IntKind.i64 x_18,
 Go.Value.string x_19] w' → Go.Sx.CallsV Go.Proofs.Try.prog (20 : Nat) #[Go.Value.pointer x_7] w'_6 fun (v : Go.Value) (w' : Go.World) => ∃ (x : Int), v = Go.Value.int Go.IntKind.i64 x ∧ Go.Sx.CallsV
 Go.Proofs.Try.prog (20 : Nat) #[Go.Value.pointer x_7] w' fun (v : Go.Value) (w' : Go.World) => ∃ (x : Int), v = Go.Value.int Go.IntKind.i64 x ∧ Go.Sx.CallsV Go.Proofs.Try.prog (22 : Nat)
 #[Go.Value.pointer x_7] w' fun (v : Go.Value) (w' : Go.World) => ∃ (x : Option Go.Addr), ∃ (x_20 : Nat), ∃ (x_21 : Nat), ∃ (x_22 : Bool), v = Go.Value.tuple #[Go.Value.slice x x_20 x_21, Go.Value.bool
 x_22] ∧ bif !Decidable.decide ((↑x_20 : Int) = (1 : Int)) then K (Go.Value.bool Bool.false) w' else Go.Sx.CallsV Go.Proofs.Try.prog (29 : Nat) #[Go.Value.string (ByteArray.mk #[(111 : UInt8), (117 :
 UInt8), (116 : UInt8)])] w' fun (v : Go.Value) (w' : Go.World) => ∃ (x_23 : Int), ∃ (x_24 : Int), ∃ (x_25 : ByteArray), v = Go.Value.agg #[Go.Value.int Go.IntKind.u8 x_23, Go.Value.int Go.IntKind.i64
 x_24, Go.Value.string x_25] ∧ ∃ (ad : Go.Addr), x = Option.some ad ∧ ((0 : Int) ≤ (0 : Int) ∧ (0 : Int) < (↑x_20 : Int)) ∧ Go.Sx.stOK (Go.Addr.add ad (Int.toNat (0 : Int) * (3 : Nat))) (0 : Nat)
 [Go.Value.int Go.IntKind.u8 x_23, Go.Value.int Go.IntKind.i64 x_24, Go.Value.string x_25] w' ∧ ∀ (w'_7 : Go.World), w'_7 = Go.Sx.setAll (Go.Addr.add ad (Int.toNat (0 : Int) * (3 : Nat))) (0 : Nat)
 [Go.Value.int Go.IntKind.u8 x_23, Go.Value.int Go.IntKind.i64 x_24, Go.Value.string x_25] w' → Go.Sx.CallsV Go.Proofs.Try.prog (22 : Nat) #[Go.Value.pointer x_7] w'_7 fun (v : Go.Value) (w' : Go.World)
 => ∃ (x : Option Go.Addr), ∃ (x_26 : Nat), ∃ (x_27 : Nat), ∃ (x_28 : Bool), v = Go.Value.tuple #[Go.Value.slice x x_26 x_27, Go.Value.bool x_28] ∧ Go.Sx.CallsV Go.Proofs.Try.prog (24 : Nat)
 #[Go.Value.pointer x_7] w' fun (v : Go.Value) (w' : Go.World) => ∃ (x : Int), v = Go.Value.int Go.IntKind.i64 x ∧ Go.Sx.CallsV Go.Proofs.Try.prog (22 : Nat) #[Go.Value.pointer x_7] w' fun (v :
 Go.Value) (w' : Go.World) => ∃ (x : Option Go.Addr), ∃ (x_29 : Nat), ∃ (x_30 : Nat), ∃ (x_31 : Bool), v = Go.Value.tuple #[Go.Value.slice x x_29 x_30, Go.Value.bool x_31] ∧ Go.Sx.CallsV
 Go.Proofs.Try.prog (14 : Nat) #[Go.Value.slice Option.none (0 : Nat) (0 : Nat), Go.Value.bool Bool.true] w' fun (v : Go.Value) (w' : Go.World) => ∃ (x : Option Go.Addr), ∃ (x_32 : Int), v =
 Go.Value.tuple #[Go.Value.pointer x, Go.Value.int Go.IntKind.i64 x_32] ∧ ∃ (I : Int → Go.World → Prop), ∃ (μ : Int → Go.World → Nat), I (0 : Int) w' ∧ ∀ (x_33 : Int) (w : Go.World), I x_33 w → bif
 Decidable.decide (x_33 < (65536 : Int)) then Go.Sx.CallsV Go.Proofs.Try.prog (18 : Nat) #[Go.Value.pointer x, Go.Value.slice Option.none (0 : Nat) (0 : Nat), Go.Value.slice Option.none (0 : Nat) (0 :
 Nat)] w fun (v : Go.Value) (w' : Go.World) => ∃ (x : Int), v = Go.Value.int Go.IntKind.i64 x ∧ bif !Decidable.decide (x = (0 : Int)) then K (Go.Value.bool Bool.false) w' else I (Go.IntKind.wrap
 Go.IntKind.i64 (x_33 + (1 : Int))) w' ∧ μ (Go.IntKind.wrap Go.IntKind.i64 (x_33 + (1 : Int))) w' < μ x_33 w else Go.Sx.CallsV Go.Proofs.Try.prog (18 : Nat) #[Go.Value.pointer x, Go.Value.slice
 Option.none (0 : Nat) (0 : Nat), Go.Value.slice Option.none (0 : Nat) (0 : Nat)] w fun (v : Go.Value) (w' : Go.World) => ∃ (x_34 : Int), v = Go.Value.int Go.IntKind.i64 x_34 ∧ Go.Sx.CallsV
 Go.Proofs.Try.prog (26 : Nat) #[Go.Value.pointer x] w' fun (v : Go.Value) (w' : Go.World) => ∃ (x_35 : Int), v = Go.Value.int Go.IntKind.i64 x_35 ∧ Go.Sx.CallsV Go.Proofs.Try.prog (20 : Nat)
 #[Go.Value.pointer x] w' fun (v : Go.Value) (w' : Go.World) => ∃ (x : Int), v = Go.Value.int Go.IntKind.i64 x ∧ K (Go.Value.bool Bool.false) (Go.World.drew w') else Go.Sx.CallsV Go.Proofs.Try.prog (29
 : Nat) #[Go.Value.string (ByteArray.mk #[(105 : UInt8), (110 : UInt8)])] w' fun (v : Go.Value) (w' : Go.World) => ∃ (x : Int), ∃ (x_16 : Int), ∃ (x_17 : ByteArray), v = Go.Value.agg #[Go.Value.int
 Go.IntKind.u8 x, Go.Value.int Go.IntKind.i64 x_16, Go.Value.string x_17] ∧ ∀ (g_1 : Nat) (w'_5 : Go.World), Go.Sx.Fresh w' g_1 w'_5 [Go.Value.int Go.IntKind.u8 x, Go.Value.int Go.IntKind.i64 x_16,
 Go.Value.string x_17] (31 : Nat) → Go.Sx.CallsV Go.Proofs.Try.prog (18 : Nat) #[Go.Value.pointer x_7, Go.Value.slice (Option.some (Go.Addr.mk g (0 : Nat) Option.none)) (1 : Nat) (1 : Nat),
 Go.Value.slice (Option.some (Go.Addr.mk g_1 (0 : Nat) Option.none)) (1 : Nat) (1 : Nat)] w'_5 fun (v : Go.Value) (w' : Go.World) => ∃ (x : Int), v = Go.Value.int Go.IntKind.i64 x ∧ Go.Sx.CallsV
 Go.Proofs.Try.prog (29 : Nat) #[Go.Value.string (ByteArray.mk #[(111 : UInt8), (117 : UInt8), (116 : UInt8)])] w' fun (v : Go.Value) (w' : Go.World) => ∃ (x : Int), ∃ (x_18 : Int), ∃ (x_19 :
 ByteArray), v = Go.Value.agg #[Go.Value.int Go.IntKind.u8 x, Go.Value.int Go.IntKind.i64 x_18, Go.Value.string x_19] ∧ ∃ (ad : Go.Addr), Option.some (Go.Addr.mk g_1 (0 : Nat) Option.none) = Option.some
 ad ∧ ((0 : Int) ≤ (0 : Int) ∧ (0 : Int) < (↑(1 : Nat) : Int)) ∧ Go.Sx.stOK (Go.Addr.add ad (Int.toNat (0 : Int) * (3 : Nat))) (0 : Nat) [Go.Value.int Go.IntKind.u8 x, Go.Value.int Go.IntKind.i64 x_18,
 Go.Value.string x_19] w' ∧ ∀ (w'_6 : Go.World), w'_6 = Go.Sx.setAll (Go.Addr.add ad (Int.toNat (0 : Int) * (3 : Nat))) (0 : Nat) [Go.Value.int Go.IntKind.u8 x, Go.Value.int Go.IntKind.i64 x_18,
 Go.Value.string x_19] w' → Go.Sx.CallsV Go.Proofs.Try.prog (20 : Nat) #[Go.Value.pointer x_7] w'_6 fun (v : Go.Value) (w' : Go.World) => ∃ (x : Int), v = Go.Value.int Go.IntKind.i64 x ∧ Go.Sx.CallsV
 Go.Proofs.Try.prog (20 : Nat) #[Go.Value.pointer x_7] w' fun (v : Go.Value) (w' : Go.World) => ∃ (x : Int), v = Go.Value.int Go.IntKind.i64 x ∧ Go.Sx.CallsV Go.Proofs.Try.prog (22 : Nat)
 #[Go.Value.pointer x_7] w' fun (v : Go.Value) (w' : Go.World) => ∃ (x : Option Go.Addr), ∃ (x_20 : Nat), ∃ (x_21 : Nat), ∃ (x_22 : Bool), v = Go.Value.tuple #[Go.Value.slice x x_20 x_21, Go.Value.bool
 x_22] ∧ bif !Decidable.decide ((↑x_20 : Int) = (1 : Int)) then K (Go.Value.bool Bool.false) w' else Go.Sx.CallsV Go.Proofs.Try.prog (29 : Nat) #[Go.Value.string (ByteArray.mk #[(111 : UInt8), (117 :
 UInt8), (116 : UInt8)])] w' fun (v : Go.Value) (w' : Go.World) => ∃ (x_23 : Int), ∃ (x_24 : Int), ∃ (x_25 : ByteArray), v = Go.Value.agg #[Go.Value.int Go.IntKind.u8 x_23, Go.Value.int Go.IntKind.i64
 x_24, Go.Value.string x_25] ∧ ∃ (ad : Go.Addr), x = Option.some ad ∧ ((0 : Int) ≤ (0 : Int) ∧ (0 : Int) < (↑x_20 : Int)) ∧ Go.Sx.stOK (Go.Addr.add ad (Int.toNat (0 : Int) * (3 : Nat))) (0 : Nat)
 [Go.Value.int Go.IntKind.u8 x_23, Go.Value.int Go.IntKind.i64 x_24, Go.Value.string x_25] w' ∧ ∀ (w'_7 : Go.World), w'_7 = Go.Sx.setAll (Go.Addr.add ad (Int.toNat (0 : Int) * (3 : Nat))) (0 : Nat)
 [Go.Value.int Go.IntKind.u8 x_23, Go.Value.int Go.IntKind.i64 x_24, Go.Value.string x_25] w' → Go.Sx.CallsV Go.Proofs.Try.prog (22 : Nat) #[Go.Value.pointer x_7] w'_7 fun (v : Go.Value) (w' : Go.World)
 => ∃ (x : Option Go.Addr), ∃ (x_26 : Nat), ∃ (x_27 : Nat), ∃ (x_28 : Bool), v = Go.Value.tuple #[Go.Value.slice x x_26 x_27, Go.Value.bool x_28] ∧ Go.Sx.CallsV Go.Proofs.Try.prog (24 : Nat)
 #[Go.Value.pointer x_7] w' fun (v : Go.Value) (w' : Go.World) => ∃ (x : Int), v = Go.Value.int Go.IntKind.i64 x ∧ Go.Sx.CallsV Go.Proofs.Try.prog (22 : Nat) #[Go.Value.pointer x_7] w' fun (v :
 Go.Value) (w' : Go.World) => ∃ (x : Option Go.Addr), ∃ (x_29 : Nat), ∃ (x_30 : Nat), ∃ (x_31 : Bool), v = Go.Value.tuple #[Go.Value.slice x x_29 x_30, Go.Value.bool x_31] ∧ Go.Sx.CallsV
 Go.Proofs.Try.prog (14 : Nat) #[Go.Value.slice Option.none (0 : Nat) (0 : Nat), Go.Value.bool Bool.true] w' fun (v : Go.Value) (w' : Go.World) => ∃ (x : Option Go.Addr), ∃ (x_32 : Int), v =
 Go.Value.tuple #[Go.Value.pointer x, Go.Value.int Go.IntKind.i64 x_32] ∧ ∃ (I : Int → Go.World → Prop), ∃ (μ : Int → Go.World → Nat), I (0 : Int) w' ∧ ∀ (x_33 : Int) (w : Go.World), I x_33 w → bif
 Decidable.decide (x_33 < (65536 : Int)) then Go.Sx.CallsV Go.Proofs.Try.prog (18 : Nat) #[Go.Value.pointer x, Go.Value.slice Option.none (0 : Nat) (0 : Nat), Go.Value.slice Option.none (0 : Nat) (0 :
 Nat)] w fun (v : Go.Value) (w' : Go.World) => ∃ (x : Int), v = Go.Value.int Go.IntKind.i64 x ∧ bif !Decidable.decide (x = (0 : Int)) then K (Go.Value.bool Bool.false) w' else I (Go.IntKind.wrap
 Go.IntKind.i64 (x_33 + (1 : Int))) w' ∧ μ (Go.IntKind.wrap Go.IntKind.i64 (x_33 + (1 : Int))) w' < μ x_33 w else Go.Sx.CallsV Go.Proofs.Try.prog (18 : Nat) #[Go.Value.pointer x, Go.Value.slice
 Option.none (0 : Nat) (0 : Nat), Go.Value.slice Option.none (0 : Nat) (0 : Nat)] w fun (v : Go.Value) (w' : Go.World) => ∃ (x_34 : Int), v = Go.Value.int Go.IntKind.i64 x_34 ∧ Go.Sx.CallsV
 Go.Proofs.Try.prog (26 : Nat) #[Go.Value.pointer x] w' fun (v : Go.Value) (w' : Go.World) => ∃ (x_35 : Int), v = Go.Value.int Go.IntKind.i64 x_35 ∧ Go.Sx.CallsV Go.Proofs.Try.prog (20 : Nat)
 #[Go.Value.pointer x] w' fun (v : Go.Value) (w' : Go.World) => ∃ (x : Int), v = Go.Value.int Go.IntKind.i64 x ∧ K (Go.Value.bool Bool.false) (Go.World.drew w') else Go.Sx.CallsV Go.Proofs.Try.prog (29
 : Nat) #[Go.Value.string (ByteArray.mk #[(105 : UInt8), (110 : UInt8)])] w' fun (v : Go.Value) (w' : Go.World) => ∃ (x : Int), ∃ (x_16 : Int), ∃ (x_17 : ByteArray), v = Go.Value.agg #[Go.Value.int
 Go.IntKind.u8 x, Go.Value.int Go.IntKind.i64 x_16, Go.Value.string x_17] ∧ ∀ (g_1 : Nat) (w'_5 : Go.World), Go.Sx.Fresh w' g_1 w'_5 [Go.Value.int Go.IntKind.u8 x, Go.Value.int Go.IntKind.i64 x_16,
 Go.Value.string x_17] (31 : Nat) → Go.Sx.CallsV Go.Proofs.Try.prog (18 : Nat) #[Go.Value.pointer x_7, Go.Value.slice (Option.some (Go.Addr.mk g (0 : Nat) Option.none)) (1 : Nat) (1 : Nat),
 Go.Value.slice (Option.some (Go.Addr.mk g_1 (0 : Nat) Option.none)) (1 : Nat) (1 : Nat)] w'_5 fun (v : Go.Value) (w' : Go.World) => ∃ (x : Int), v = Go.Value.int Go.IntKind.i64 x ∧ Go.Sx.CallsV
 Go.Proofs.Try.prog (29 : Nat) #[Go.Value.string (ByteArray.mk #[(111 : UInt8), (117 : UInt8), (116 : UInt8)])] w' fun (v : Go.Value) (w' : Go.World) => ∃ (x : Int), ∃ (x_18 : Int), ∃ (x_19 :
 ByteArray), v = Go.Value.agg #[Go.Value.int Go.IntKind.u8 x, Go.Value.int Go.IntKind.i64 x_18, Go.Value.string x_19] ∧ ∃ (ad : Go.Addr), Option.some (Go.Addr.mk g_1 (0 : Nat) Option.none) = Option.some
 ad ∧ ((0 : Int) ≤ (0 : Int) ∧ (0 : Int) < (↑(1 : Nat) : Int)) ∧ Go.Sx.stOK (Go.Addr.add ad (Int.toNat (0 : Int) * (3 : Nat))) (0 : Nat) [Go.Value.int Go.IntKind.u8 x, Go.Value.int Go.IntKind.i64 x_18,
 Go.Value.string x_19] w' ∧ ∀ (w'_6 : Go.World), w'_6 = Go.Sx.setAll (Go.Addr.add ad (Int.toNat (0 : Int) * (3 : Nat))) (0 : Nat) [Go.Value.int Go.IntKind.u8 x, Go.Value.int Go.IntKind.i64 x_18,
 Go.Value.string x_19] w' → Go.Sx.CallsV Go.Proofs.Try.prog (20 : Nat) #[Go.Value.pointer x_7] w'_6 fun (v : Go.Value) (w' : Go.World) => ∃ (x : Int), v = Go.Value.int Go.IntKind.i64 x ∧ Go.Sx.CallsV
 Go.Proofs.Try.prog (20 : Nat) #[Go.Value.pointer x_7] w' fun (v : Go.Value) (w' : Go.World) => ∃ (x : Int), v = Go.Value.int Go.IntKind.i64 x ∧ Go.Sx.CallsV Go.Proofs.Try.prog (22 : Nat)
 #[Go.Value.pointer x_7] w' fun (v : Go.Value) (w' : Go.World) => ∃ (x : Option Go.Addr), ∃ (x_20 : Nat), ∃ (x_21 : Nat), ∃ (x_22 : Bool), v = Go.Value.tuple #[Go.Value.slice x x_20 x_21, Go.Value.bool
 x_22] ∧ bif !Decidable.decide ((↑x_20 : Int) = (1 : Int)) then K (Go.Value.bool Bool.false) w' else Go.Sx.CallsV Go.Proofs.Try.prog (29 : Nat) #[Go.Value.string (ByteArray.mk #[(111 : UInt8), (117 :
 UInt8), (116 : UInt8)])] w' fun (v : Go.Value) (w' : Go.World) => ∃ (x_23 : Int), ∃ (x_24 : Int), ∃ (x_25 : ByteArray), v = Go.Value.agg #[Go.Value.int Go.IntKind.u8 x_23, Go.Value.int Go.IntKind.i64
 x_24, Go.Value.string x_25] ∧ ∃ (ad : Go.Addr), x = Option.some ad ∧ ((0 : Int) ≤ (0 : Int) ∧ (0 : Int) < (↑x_20 : Int)) ∧ Go.Sx.stOK (Go.Addr.add ad (Int.toNat (0 : Int) * (3 : Nat))) (0 : Nat)
 [Go.Value.int Go.IntKind.u8 x_23, Go.Value.int Go.IntKind.i64 x_24, Go.Value.string x_25] w' ∧ ∀ (w'_7 : Go.World), w'_7 = Go.Sx.setAll (Go.Addr.add ad (Int.toNat (0 : Int) * (3 : Nat))) (0 : Nat)
 [Go.Value.int Go.IntKind.u8 x_23, Go.Value.int Go.IntKind.i64 x_24, Go.Value.string x_25] w' → Go.Sx.CallsV Go.Proofs.Try.prog (22 : Nat) #[Go.Value.pointer x_7] w'_7 fun (v : Go.Value) (w' : Go.World)
 => ∃ (x : Option Go.Addr), ∃ (x_26 : Nat), ∃ (x_27 : Nat), ∃ (x_28 : Bool), v = Go.Value.tuple #[Go.Value.slice x x_26 x_27, Go.Value.bool x_28] ∧ Go.Sx.CallsV Go.Proofs.Try.prog (24 : Nat)
 #[Go.Value.pointer x_7] w' fun (v : Go.Value) (w' : Go.World) => ∃ (x : Int), v = Go.Value.int Go.IntKind.i64 x ∧ Go.Sx.CallsV Go.Proofs.Try.prog (22 : Nat) #[Go.Value.pointer x_7] w' fun (v :
 Go.Value) (w' : Go.World) => ∃ (x : Option Go.Addr), ∃ (x_29 : Nat), ∃ (x_30 : Nat), ∃ (x_31 : Bool), v = Go.Value.tuple #[Go.Value.slice x x_29 x_30, Go.Value.bool x_31] ∧ Go.Sx.CallsV
 Go.Proofs.Try.prog (14 : Nat) #[Go.Value.slice Option.none (0 : Nat) (0 : Nat), Go.Value.bool Bool.true] w' fun (v : Go.Value) (w' : Go.World) => ∃ (x : Option Go.Addr), ∃ (x_32 : Int), v =
 Go.Value.tuple #[Go.Value.pointer x, Go.Value.int Go.IntKind.i64 x_32] ∧ ∃ (I : Int → Go.World → Prop), ∃ (μ : Int → Go.World → Nat), I (0 : Int) w' ∧ ∀ (x_33 : Int) (w : Go.World), I x_33 w → bif
 Decidable.decide (x_33 < (65536 : Int)) then Go.Sx.CallsV Go.Proofs.Try.prog (18 : Nat) #[Go.Value.pointer x, Go.Value.slice Option.none (0 : Nat) (0 : Nat), Go.Value.slice Option.none (0 : Nat) (0 :
 Nat)] w fun (v : Go.Value) (w' : Go.World) => ∃ (x : Int), v = Go.Value.int Go.IntKind.i64 x ∧ bif !Decidable.decide (x = (0 : Int)) then K (Go.Value.bool Bool.false) w' else I (Go.IntKind.wrap
 Go.IntKind.i64 (x_33 + (1 : Int))) w' ∧ μ (Go.IntKind.wrap Go.IntKind.i64 (x_33 + (1 : Int))) w' < μ x_33 w else Go.Sx.CallsV Go.Proofs.Try.prog (18 : Nat) #[Go.Value.pointer x, Go.Value.slice
 Option.none (0 : Nat) (0 : Nat), Go.Value.slice Option.none (0 : Nat) (0 : Nat)] w fun (v : Go.Value) (w' : Go.World) => ∃ (x_34 : Int), v = Go.Value.int Go.IntKind.i64 x_34 ∧ Go.Sx.CallsV
 Go.Proofs.Try.prog (26 : Nat) #[Go.Value.pointer x] w' fun (v : Go.Value) (w' : Go.World) => ∃ (x_35 : Int), v = Go.Value.int Go.IntKind.i64 x_35 ∧ Go.Sx.CallsV Go.Proofs.Try.prog (20 : Nat)
 #[Go.Value.pointer x] w' fun (v : Go.Value) (w' : Go.World) => ∃ (x : Int), v = Go.Value.int Go.IntKind.i64 x ∧ K (Go.Value.bool Bool.false) (Go.World.drew w')) ∧ ∃ (x : Option Go.Addr), ∃ (x_13 :
 Nat), ∃ (x_14 : Nat), ∃ (w'_4 : Go.World), Go.Sx.RunsTo Go.Proofs.Try.prog (Go.Instr.makeSlice (32 : Nat) (Go.Value.int Go.IntKind.i64 (16 : Int)) (Go.Value.int Go.IntKind.i64 (16 : Int))) w'
 (Go.Value.slice x x_13 x_14) w'_4 ∧ ∃ (I : Int → Go.World → Prop), ∃ (μ : Int → Go.World → Nat), I (0 : Int) w'_4 ∧ ∀ (x_15 : Int) (w : Go.World), I x_15 w → bif Decidable.decide (x_15 < (↑x_13 : Int))
 then Go.Sx.CallsV Go.Proofs.Try.prog (30 : Nat) #[Go.Value.string (ByteArray.mk #[(120 : UInt8)]), Go.Value.int Go.IntKind.i64 (65536 : Int)] w fun (v : Go.Value) (w' : Go.World) => ∃ (x_16 :
 ByteArray), v = Go.Value.string x_16 ∧ Go.Sx.CallsV Go.Proofs.Try.prog (29 : Nat) #[Go.Value.string x_16] w' fun (v : Go.Value) (w' : Go.World) => ∃ (x_17 : Int), ∃ (x_18 : Int), ∃ (x_19 : ByteArray),
 v = Go.Value.agg #[Go.Value.int Go.IntKind.u8 x_17, Go.Value.int Go.IntKind.i64 x_18, Go.Value.string x_19] ∧ ∃ (ad : Go.Addr), x = Option.some ad ∧ ((0 : Int) ≤ x_15 ∧ x_15 < (↑x_13 : Int)) ∧
 Go.Sx.stOK (Go.Addr.add ad (Int.toNat x_15 * (3 : Nat))) (0 : Nat) [Go.Value.int Go.IntKind.u8 x_17, Go.Value.int Go.IntKind.i64 x_18, Go.Value.string x_19] w' ∧ ∀ (w'_5 : Go.World), w'_5 =
 Go.Sx.setAll (Go.Addr.add ad (Int.toNat x_15 * (3 : Nat))) (0 : Nat) [Go.Value.int Go.IntKind.u8 x_17, Go.Value.int Go.IntKind.i64 x_18, Go.Value.string x_19] w' → I (Go.IntKind.wrap Go.IntKind.i64
 (x_15 + (1 : Int))) w'_5 ∧ μ (Go.IntKind.wrap Go.IntKind.i64 (x_15 + (1 : Int))) w'_5 < μ x_15 w else Go.Sx.CallsV Go.Proofs.Try.prog (18 : Nat) #[Go.Value.pointer x_7, Go.Value.slice (Option.some
 (Go.Addr.mk g (0 : Nat) Option.none)) (1 : Nat) (1 : Nat), Go.Value.slice x x_13 x_14] w fun (v : Go.Value) (w' : Go.World) => ∃ (x : Int), v = Go.Value.int Go.IntKind.i64 x ∧ bif Decidable.decide (x =
 (3 : Int)) then Go.Sx.CallsV Go.Proofs.Try.prog (26 : Nat) #[Go.Value.pointer x_7] w' fun (v : Go.Value) (w' : Go.World) => ∃ (x : Int), v = Go.Value.int Go.IntKind.i64 x ∧ bif Decidable.decide (x = (0
 : Int)) then Go.Sx.CallsV Go.Proofs.Try.prog (24 : Nat) #[Go.Value.pointer x_7] w' fun (v : Go.Value) (w' : Go.World) => ∃ (x : Int), v = Go.Value.int Go.IntKind.i64 x ∧ Go.Sx.CallsV Go.Proofs.Try.prog
 (29 : Nat) #[Go.Value.string (ByteArray.mk #[(105 : UInt8), (110 : UInt8)])] w' fun (v : Go.Value) (w' : Go.World) => ∃ (x : Int), ∃ (x_16 : Int), ∃ (x_17 : ByteArray), v = Go.Value.agg #[Go.Value.int
 Go.IntKind.u8 x, Go.Value.int Go.IntKind.i64 x_16, Go.Value.string x_17] ∧ ∀ (g_1 : Nat) (w'_5 : Go.World), Go.Sx.Fresh w' g_1 w'_5 [Go.Value.int Go.IntKind.u8 x, Go.Value.int Go.IntKind.i64 x_16,
 Go.Value.string x_17] (31 : Nat) → Go.Sx.CallsV Go.Proofs.Try.prog (18 : Nat) #[Go.Value.pointer x_7, Go.Value.slice (Option.some (Go.Addr.mk g (0 : Nat) Option.none)) (1 : Nat) (1 : Nat),
 Go.Value.slice (Option.some (Go.Addr.mk g_1 (0 : Nat) Option.none)) (1 : Nat) (1 : Nat)] w'_5 fun (v : Go.Value) (w' : Go.World) => ∃ (x : Int), v = Go.Value.int Go.IntKind.i64 x ∧ Go.Sx.CallsV
 Go.Proofs.Try.prog (29 : Nat) #[Go.Value.string (ByteArray.mk #[(111 : UInt8), (117 : UInt8), (116 : UInt8)])] w' fun (v : Go.Value) (w' : Go.World) => ∃ (x : Int), ∃ (x_18 : Int), ∃ (x_19 :
 ByteArray), v = Go.Value.agg #[Go.Value.int Go.IntKind.u8 x, Go.Value.int Go.IntKind.i64 x_18, Go.Value.string x_19] ∧ ∃ (ad : Go.Addr), Option.some (Go.Addr.mk g_1 (0 : Nat) Option.none) = Option.some
 ad ∧ ((0 : Int) ≤ (0 : Int) ∧ (0 : Int) < (↑(1 : Nat) : Int)) ∧ Go.Sx.stOK (Go.Addr.add ad (Int.toNat (0 : Int) * (3 : Nat))) (0 : Nat) [Go.Value.int Go.IntKind.u8 x, Go.Value.int Go.IntKind.i64 x_18,
 Go.Value.string x_19] w' ∧ ∀ (w'_6 : Go.World), w'_6 = Go.Sx.setAll (Go.Addr.add ad (Int.toNat (0 : Int) * (3 : Nat))) (0 : Nat) [Go.Value.int Go.IntKind.u8 x, Go.Value.int Go.IntKind.i64 x_18,
 Go.Value.string x_19] w' → Go.Sx.CallsV Go.Proofs.Try.prog (20 : Nat) #[Go.Value.pointer x_7] w'_6 fun (v : Go.Value) (w' : Go.World) => ∃ (x : Int), v = Go.Value.int Go.IntKind.i64 x ∧ Go.Sx.CallsV
 Go.Proofs.Try.prog (20 : Nat) #[Go.Value.pointer x_7] w' fun (v : Go.Value) (w' : Go.World) => ∃ (x : Int), v = Go.Value.int Go.IntKind.i64 x ∧ Go.Sx.CallsV Go.Proofs.Try.prog (22 : Nat)
 #[Go.Value.pointer x_7] w' fun (v : Go.Value) (w' : Go.World) => ∃ (x : Option Go.Addr), ∃ (x_20 : Nat), ∃ (x_21 : Nat), ∃ (x_22 : Bool), v = Go.Value.tuple #[Go.Value.slice x x_20 x_21, Go.Value.bool
 x_22] ∧ bif !Decidable.decide ((↑x_20 : Int) = (1 : Int)) then K (Go.Value.bool Bool.false) w' else Go.Sx.CallsV Go.Proofs.Try.prog (29 : Nat) #[Go.Value.string (ByteArray.mk #[(111 : UInt8), (117 :
 UInt8), (116 : UInt8)])] w' fun (v : Go.Value) (w' : Go.World) => ∃ (x_23 : Int), ∃ (x_24 : Int), ∃ (x_25 : ByteArray), v = Go.Value.agg #[Go.Value.int Go.IntKind.u8 x_23, Go.Value.int Go.IntKind.i64
 x_24, Go.Value.string x_25] ∧ ∃ (ad : Go.Addr), x = Option.some ad ∧ ((0 : Int) ≤ (0 : Int) ∧ (0 : Int) < (↑x_20 : Int)) ∧ Go.Sx.stOK (Go.Addr.add ad (Int.toNat (0 : Int) * (3 : Nat))) (0 : Nat)
 [Go.Value.int Go.IntKind.u8 x_23, Go.Value.int Go.IntKind.i64 x_24, Go.Value.string x_25] w' ∧ ∀ (w'_7 : Go.World), w'_7 = Go.Sx.setAll (Go.Addr.add ad (Int.toNat (0 : Int) * (3 : Nat))) (0 : Nat)
 [Go.Value.int Go.IntKind.u8 x_23, Go.Value.int Go.IntKind.i64 x_24, Go.Value.string x_25] w' → Go.Sx.CallsV Go.Proofs.Try.prog (22 : Nat) #[Go.Value.pointer x_7] w'_7 fun (v : Go.Value) (w' : Go.World)
 => ∃ (x : Option Go.Addr), ∃ (x_26 : Nat), ∃ (x_27 : Nat), ∃ (x_28 : Bool), v = Go.Value.tuple #[Go.Value.slice x x_26 x_27, Go.Value.bool x_28] ∧ Go.Sx.CallsV Go.Proofs.Try.prog (24 : Nat)
 #[Go.Value.pointer x_7] w' fun (v : Go.Value) (w' : Go.World) => ∃ (x : Int), v = Go.Value.int Go.IntKind.i64 x ∧ Go.Sx.CallsV Go.Proofs.Try.prog (22 : Nat) #[Go.Value.pointer x_7] w' fun (v :
 Go.Value) (w' : Go.World) => ∃ (x : Option Go.Addr), ∃ (x_29 : Nat), ∃ (x_30 : Nat), ∃ (x_31 : Bool), v = Go.Value.tuple #[Go.Value.slice x x_29 x_30, Go.Value.bool x_31] ∧ Go.Sx.CallsV
 Go.Proofs.Try.prog (14 : Nat) #[Go.Value.slice Option.none (0 : Nat) (0 : Nat), Go.Value.bool Bool.true] w' fun (v : Go.Value) (w' : Go.World) => ∃ (x : Option Go.Addr), ∃ (x_32 : Int), v =
 Go.Value.tuple #[Go.Value.pointer x, Go.Value.int Go.IntKind.i64 x_32] ∧ ∃ (I : Int → Go.World → Prop), ∃ (μ : Int → Go.World → Nat), I (0 : Int) w' ∧ ∀ (x_33 : Int) (w : Go.World), I x_33 w → bif
 Decidable.decide (x_33 < (65536 : Int)) then Go.Sx.CallsV Go.Proofs.Try.prog (18 : Nat) #[Go.Value.pointer x, Go.Value.slice Option.none (0 : Nat) (0 : Nat), Go.Value.slice Option.none (0 : Nat) (0 :
 Nat)] w fun (v : Go.Value) (w' : Go.World) => ∃ (x : Int), v = Go.Value.int Go.IntKind.i64 x ∧ bif !Decidable.decide (x = (0 : Int)) then K (Go.Value.bool Bool.false) w' else I (Go.IntKind.wrap
 Go.IntKind.i64 (x_33 + (1 : Int))) w' ∧ μ (Go.IntKind.wrap Go.IntKind.i64 (x_33 + (1 : Int))) w' < μ x_33 w else Go.Sx.CallsV Go.Proofs.Try.prog (18 : Nat) #[Go.Value.pointer x, Go.Value.slice
 Option.none (0 : Nat) (0 : Nat), Go.Value.slice Option.none (0 : Nat) (0 : Nat)] w fun (v : Go.Value) (w' : Go.World) => ∃ (x_34 : Int), v = Go.Value.int Go.IntKind.i64 x_34 ∧ Go.Sx.CallsV
 Go.Proofs.Try.prog (26 : Nat) #[Go.Value.pointer x] w' fun (v : Go.Value) (w' : Go.World) => ∃ (x_35 : Int), v = Go.Value.int Go.IntKind.i64 x_35 ∧ Go.Sx.CallsV Go.Proofs.Try.prog (20 : Nat)
 #[Go.Value.pointer x] w' fun (v : Go.Value) (w' : Go.World) => ∃ (x : Int), v = Go.Value.int Go.IntKind.i64 x ∧ K (Go.Value.bool Bool.false) (Go.World.drew w') else Go.Sx.CallsV Go.Proofs.Try.prog (29
 : Nat) #[Go.Value.string (ByteArray.mk #[(105 : UInt8), (110 : UInt8)])] w' fun (v : Go.Value) (w' : Go.World) => ∃ (x : Int), ∃ (x_16 : Int), ∃ (x_17 : ByteArray), v = Go.Value.agg #[Go.Value.int
 Go.IntKind.u8 x, Go.Value.int Go.IntKind.i64 x_16, Go.Value.string x_17] ∧ ∀ (g_1 : Nat) (w'_5 : Go.World), Go.Sx.Fresh w' g_1 w'_5 [Go.Value.int Go.IntKind.u8 x, Go.Value.int Go.IntKind.i64 x_16,
 Go.Value.string x_17] (31 : Nat) → Go.Sx.CallsV Go.Proofs.Try.prog (18 : Nat) #[Go.Value.pointer x_7, Go.Value.slice (Option.some (Go.Addr.mk g (0 : Nat) Option.none)) (1 : Nat) (1 : Nat),
 Go.Value.slice (Option.some (Go.Addr.mk g_1 (0 : Nat) Option.none)) (1 : Nat) (1 : Nat)] w'_5 fun (v : Go.Value) (w' : Go.World) => ∃ (x : Int), v = Go.Value.int Go.IntKind.i64 x ∧ Go.Sx.CallsV
 Go.Proofs.Try.prog (29 : Nat) #[Go.Value.string (ByteArray.mk #[(111 : UInt8), (117 : UInt8), (116 : UInt8)])] w' fun (v : Go.Value) (w' : Go.World) => ∃ (x : Int), ∃ (x_18 : Int), ∃ (x_19 :
 ByteArray), v = Go.Value.agg #[Go.Value.int Go.IntKind.u8 x, Go.Value.int Go.IntKind.i64 x_18, Go.Value.string x_19] ∧ ∃ (ad : Go.Addr), Option.some (Go.Addr.mk g_1 (0 : Nat) Option.none) = Option.some
 ad ∧ ((0 : Int) ≤ (0 : Int) ∧ (0 : Int) < (↑(1 : Nat) : Int)) ∧ Go.Sx.stOK (Go.Addr.add ad (Int.toNat (0 : Int) * (3 : Nat))) (0 : Nat) [Go.Value.int Go.IntKind.u8 x, Go.Value.int Go.IntKind.i64 x_18,
 Go.Value.string x_19] w' ∧ ∀ (w'_6 : Go.World), w'_6 = Go.Sx.setAll (Go.Addr.add ad (Int.toNat (0 : Int) * (3 : Nat))) (0 : Nat) [Go.Value.int Go.IntKind.u8 x, Go.Value.int Go.IntKind.i64 x_18,
 Go.Value.string x_19] w' → Go.Sx.CallsV Go.Proofs.Try.prog (20 : Nat) #[Go.Value.pointer x_7] w'_6 fun (v : Go.Value) (w' : Go.World) => ∃ (x : Int), v = Go.Value.int Go.IntKind.i64 x ∧ Go.Sx.CallsV
 Go.Proofs.Try.prog (20 : Nat) #[Go.Value.pointer x_7] w' fun (v : Go.Value) (w' : Go.World) => ∃ (x : Int), v = Go.Value.int Go.IntKind.i64 x ∧ Go.Sx.CallsV Go.Proofs.Try.prog (22 : Nat)
 #[Go.Value.pointer x_7] w' fun (v : Go.Value) (w' : Go.World) => ∃ (x : Option Go.Addr), ∃ (x_20 : Nat), ∃ (x_21 : Nat), ∃ (x_22 : Bool), v = Go.Value.tuple #[Go.Value.slice x x_20 x_21, Go.Value.bool
 x_22] ∧ bif !Decidable.decide ((↑x_20 : Int) = (1 : Int)) then K (Go.Value.bool Bool.false) w' else Go.Sx.CallsV Go.Proofs.Try.prog (29 : Nat) #[Go.Value.string (ByteArray.mk #[(111 : UInt8), (117 :
 UInt8), (116 : UInt8)])] w' fun (v : Go.Value) (w' : Go.World) => ∃ (x_23 : Int), ∃ (x_24 : Int), ∃ (x_25 : ByteArray), v = Go.Value.agg #[Go.Value.int Go.IntKind.u8 x_23, Go.Value.int Go.IntKind.i64
 x_24, Go.Value.string x_25] ∧ ∃ (ad : Go.Addr), x = Option.some ad ∧ ((0 : Int) ≤ (0 : Int) ∧ (0 : Int) < (↑x_20 : Int)) ∧ Go.Sx.stOK (Go.Addr.add ad (Int.toNat (0 : Int) * (3 : Nat))) (0 : Nat)
 [Go.Value.int Go.IntKind.u8 x_23, Go.Value.int Go.IntKind.i64 x_24, Go.Value.string x_25] w' ∧ ∀ (w'_7 : Go.World), w'_7 = Go.Sx.setAll (Go.Addr.add ad (Int.toNat (0 : Int) * (3 : Nat))) (0 : Nat)
 [Go.Value.int Go.IntKind.u8 x_23, Go.Value.int Go.IntKind.i64 x_24, Go.Value.string x_25] w' → Go.Sx.CallsV Go.Proofs.Try.prog (22 : Nat) #[Go.Value.pointer x_7] w'_7 fun (v : Go.Value) (w' : Go.World)
 => ∃ (x : Option Go.Addr), ∃ (x_26 : Nat), ∃ (x_27 : Nat), ∃ (x_28 : Bool), v = Go.Value.tuple #[Go.Value.slice x x_26 x_27, Go.Value.bool x_28] ∧ Go.Sx.CallsV Go.Proofs.Try.prog (24 : Nat)
 #[Go.Value.pointer x_7] w' fun (v : Go.Value) (w' : Go.World) => ∃ (x : Int), v = Go.Value.int Go.IntKind.i64 x ∧ Go.Sx.CallsV Go.Proofs.Try.prog (22 : Nat) #[Go.Value.pointer x_7] w' fun (v :
 Go.Value) (w' : Go.World) => ∃ (x : Option Go.Addr), ∃ (x_29 : Nat), ∃ (x_30 : Nat), ∃ (x_31 : Bool), v = Go.Value.tuple #[Go.Value.slice x x_29 x_30, Go.Value.bool x_31] ∧ Go.Sx.CallsV
 Go.Proofs.Try.prog (14 : Nat) #[Go.Value.slice Option.none (0 : Nat) (0 : Nat), Go.Value.bool Bool.true] w' fun (v : Go.Value) (w' : Go.World) => ∃ (x : Option Go.Addr), ∃ (x_32 : Int), v =
 Go.Value.tuple #[Go.Value.pointer x, Go.Value.int Go.IntKind.i64 x_32] ∧ ∃ (I : Int → Go.World → Prop), ∃ (μ : Int → Go.World → Nat), I (0 : Int) w' ∧ ∀ (x_33 : Int) (w : Go.World), I x_33 w → bif
 Decidable.decide (x_33 < (65536 : Int)) then Go.Sx.CallsV Go.Proofs.Try.prog (18 : Nat) #[Go.Value.pointer x, Go.Value.slice Option.none (0 : Nat) (0 : Nat), Go.Value.slice Option.none (0 : Nat) (0 :
 Nat)] w fun (v : Go.Value) (w' : Go.World) => ∃ (x : Int), v = Go.Value.int Go.IntKind.i64 x ∧ bif !Decidable.decide (x = (0 : Int)) then K (Go.Value.bool Bool.false) w' else I (Go.IntKind.wrap
 Go.IntKind.i64 (x_33 + (1 : Int))) w' ∧ μ (Go.IntKind.wrap Go.IntKind.i64 (x_33 + (1 : Int))) w' < μ x_33 w else Go.Sx.CallsV Go.Proofs.Try.prog (18 : Nat) #[Go.Value.pointer x, Go.Value.slice
 Option.none (0 : Nat) (0 : Nat), Go.Value.slice Option.none (0 : Nat) (0 : Nat)] w fun (v : Go.Value) (w' : Go.World) => ∃ (x_34 : Int), v = Go.Value.int Go.IntKind.i64 x_34 ∧ Go.Sx.CallsV
 Go.Proofs.Try.prog (26 : Nat) #[Go.Value.pointer x] w' fun (v : Go.Value) (w' : Go.World) => ∃ (x_35 : Int), v = Go.Value.int Go.IntKind.i64 x_35 ∧ Go.Sx.CallsV Go.Proofs.Try.prog (20 : Nat)
 #[Go.Value.pointer x] w' fun (v : Go.Value) (w' : Go.World) => ∃ (x : Int), v = Go.Value.int Go.IntKind.i64 x ∧ K (Go.Value.bool Bool.false) (Go.World.drew w') else Go.Sx.CallsV Go.Proofs.Try.prog (29
 : Nat) #[Go.Value.string (ByteArray.mk #[(105 : UInt8), (110 : UInt8)])] w' fun (v : Go.Value) (w' : Go.World) => ∃ (x : Int), ∃ (x_16 : Int), ∃ (x_17 : ByteArray), v = Go.Value.agg #[Go.Value.int
 Go.IntKind.u8 x, Go.Value.int Go.IntKind.i64 x_16, Go.Value.string x_17] ∧ ∀ (g_1 : Nat) (w'_5 : Go.World), Go.Sx.Fresh w' g_1 w'_5 [Go.Value.int Go.IntKind.u8 x, Go.Value.int Go.IntKind.i64 x_16,
 Go.Value.string x_17] (31 : Nat) → Go.Sx.CallsV Go.Proofs.Try.prog (18 : Nat) #[Go.Value.pointer x_7, Go.Value.slice (Option.some (Go.Addr.mk g (0 : Nat) Option.none)) (1 : Nat) (1 : Nat),
 Go.Value.slice (Option.some (Go.Addr.mk g_1 (0 : Nat) Option.none)) (1 : Nat) (1 : Nat)] w'_5 fun (v : Go.Value) (w' : Go.World) => ∃ (x : Int), v = Go.Value.int Go.IntKind.i64 x ∧ Go.Sx.CallsV
 Go.Proofs.Try.prog (29 : Nat) #[Go.Value.string (ByteArray.mk #[(111 : UInt8), (117 : UInt8), (116 : UInt8)])] w' fun (v : Go.Value) (w' : Go.World) => ∃ (x : Int), ∃ (x_18 : Int), ∃ (x_19 :
 ByteArray), v = Go.Value.agg #[Go.Value.int Go.IntKind.u8 x, Go.Value.int Go.IntKind.i64 x_18, Go.Value.string x_19] ∧ ∃ (ad : Go.Addr), Option.some (Go.Addr.mk g_1 (0 : Nat) Option.none) = Option.some
 ad ∧ ((0 : Int) ≤ (0 : Int) ∧ (0 : Int) < (↑(1 : Nat) : Int)) ∧ Go.Sx.stOK (Go.Addr.add ad (Int.toNat (0 : Int) * (3 : Nat))) (0 : Nat) [Go.Value.int Go.IntKind.u8 x, Go.Value.int Go.IntKind.i64 x_18,
 Go.Value.string x_19] w' ∧ ∀ (w'_6 : Go.World), w'_6 = Go.Sx.setAll (Go.Addr.add ad (Int.toNat (0 : Int) * (3 : Nat))) (0 : Nat) [Go.Value.int Go.IntKind.u8 x, Go.Value.int Go.IntKind.i64 x_18,
 Go.Value.string x_19] w' → Go.Sx.CallsV Go.Proofs.Try.prog (20 : Nat) #[Go.Value.pointer x_7] w'_6 fun (v : Go.Value) (w' : Go.World) => ∃ (x : Int), v = Go.Value.int Go.IntKind.i64 x ∧ Go.Sx.CallsV
 Go.Proofs.Try.prog (20 : Nat) #[Go.Value.pointer x_7] w' fun (v : Go.Value) (w' : Go.World) => ∃ (x : Int), v = Go.Value.int Go.IntKind.i64 x ∧ Go.Sx.CallsV Go.Proofs.Try.prog (22 : Nat)
 #[Go.Value.pointer x_7] w' fun (v : Go.Value) (w' : Go.World) => ∃ (x : Option Go.Addr), ∃ (x_20 : Nat), ∃ (x_21 : Nat), ∃ (x_22 : Bool), v = Go.Value.tuple #[Go.Value.slice x x_20 x_21, Go.Value.bool
 x_22] ∧ bif !Decidable.decide ((↑x_20 : Int) = (1 : Int)) then K (Go.Value.bool Bool.false) w' else Go.Sx.CallsV Go.Proofs.Try.prog (29 : Nat) #[Go.Value.string (ByteArray.mk #[(111 : UInt8), (117 :
 UInt8), (116 : UInt8)])] w' fun (v : Go.Value) (w' : Go.World) => ∃ (x_23 : Int), ∃ (x_24 : Int), ∃ (x_25 : ByteArray), v = Go.Value.agg #[Go.Value.int Go.IntKind.u8 x_23, Go.Value.int Go.IntKind.i64
 x_24, Go.Value.string x_25] ∧ ∃ (ad : Go.Addr), x = Option.some ad ∧ ((0 : Int) ≤ (0 : Int) ∧ (0 : Int) < (↑x_20 : Int)) ∧ Go.Sx.stOK (Go.Addr.add ad (Int.toNat (0 : Int) * (3 : Nat))) (0 : Nat)
 [Go.Value.int Go.IntKind.u8 x_23, Go.Value.int Go.IntKind.i64 x_24, Go.Value.string x_25] w' ∧ ∀ (w'_7 : Go.World), w'_7 = Go.Sx.setAll (Go.Addr.add ad (Int.toNat (0 : Int) * (3 : Nat))) (0 : Nat)
 [Go.Value.int Go.IntKind.u8 x_23, Go.Value.int Go.IntKind.i64 x_24, Go.Value.string x_25] w' → Go.Sx.CallsV Go.Proofs.Try.prog (22 : Nat) #[Go.Value.pointer x_7] w'_7 fun (v : Go.Value) (w' : Go.World)
 => ∃ (x : Option Go.Addr), ∃ (x_26 : Nat), ∃ (x_27 : Nat), ∃ (x_28 : Bool), v = Go.Value.tuple #[Go.Value.slice x x_26 x_27, Go.Value.bool x_28] ∧ Go.Sx.CallsV Go.Proofs.Try.prog (24 : Nat)
 #[Go.Value.pointer x_7] w' fun (v : Go.Value) (w' : Go.World) => ∃ (x : Int), v = Go.Value.int Go.IntKind.i64 x ∧ Go.Sx.CallsV Go.Proofs.Try.prog (22 : Nat) #[Go.Value.pointer x_7] w' fun (v :
 Go.Value) (w' : Go.World) => ∃ (x : Option Go.Addr), ∃ (x_29 : Nat), ∃ (x_30 : Nat), ∃ (x_31 : Bool), v = Go.Value.tuple #[Go.Value.slice x x_29 x_30, Go.Value.bool x_31] ∧ Go.Sx.CallsV
 Go.Proofs.Try.prog (14 : Nat) #[Go.Value.slice Option.none (0 : Nat) (0 : Nat), Go.Value.bool Bool.true] w' fun (v : Go.Value) (w' : Go.World) => ∃ (x : Option Go.Addr), ∃ (x_32 : Int), v =
 Go.Value.tuple #[Go.Value.pointer x, Go.Value.int Go.IntKind.i64 x_32] ∧ ∃ (I : Int → Go.World → Prop), ∃ (μ : Int → Go.World → Nat), I (0 : Int) w' ∧ ∀ (x_33 : Int) (w : Go.World), I x_33 w → bif
 Decidable.decide (x_33 < (65536 : Int)) then Go.Sx.CallsV Go.Proofs.Try.prog (18 : Nat) #[Go.Value.pointer x, Go.Value.slice Option.none (0 : Nat) (0 : Nat), Go.Value.slice Option.none (0 : Nat) (0 :
 Nat)] w fun (v : Go.Value) (w' : Go.World) => ∃ (x : Int), v = Go.Value.int Go.IntKind.i64 x ∧ bif !Decidable.decide (x = (0 : Int)) then K (Go.Value.bool Bool.false) w' else I (Go.IntKind.wrap
 Go.IntKind.i64 (x_33 + (1 : Int))) w' ∧ μ (Go.IntKind.wrap Go.IntKind.i64 (x_33 + (1 : Int))) w' < μ x_33 w else Go.Sx.CallsV Go.Proofs.Try.prog (18 : Nat) #[Go.Value.pointer x, Go.Value.slice
 Option.none (0 : Nat) (0 : Nat), Go.Value.slice Option.none (0 : Nat) (0 : Nat)] w fun (v : Go.Value) (w' : Go.World) => ∃ (x_34 : Int), v = Go.Value.int Go.IntKind.i64 x_34 ∧ Go.Sx.CallsV
 Go.Proofs.Try.prog (26 : Nat) #[Go.Value.pointer x] w' fun (v : Go.Value) (w' : Go.World) => ∃ (x_35 : Int), v = Go.Value.int Go.IntKind.i64 x_35 ∧ Go.Sx.CallsV Go.Proofs.Try.prog (20 : Nat)
 #[Go.Value.pointer x] w' fun (v : Go.Value) (w' : Go.World) => ∃ (x : Int), v = Go.Value.int Go.IntKind.i64 x ∧ K (Go.Value.bool Bool.false) (Go.World.drew w')
theorem cardindexlaw07_SorterNumbers.eq  (w : World) (K : Value → World → Prop) : cardindexlaw07_SorterNumbers.W  w K = fnW Try.prog Try.f9 (.named (.seq .auto (.seq .auto (.seq .auto (.seq .auto (.seq .auto (.seq .auto (.seq .auto (.seq .auto (.seq (.seq .auto (.block (.loop [(100, .one (.int .i64))] .auto))) (.seq .auto (.seq .auto (.seq .auto (.seq .auto (.seq .auto (.seq .auto (.seq .auto (.seq .auto (.seq .auto (.seq .auto (.seq .auto (.seq .auto (.seq .auto (.seq (.seq .auto (.block (.loop [(25, .one (.int .i64))] .auto))) .auto)))))))))))))))))))))))) [] w K := by kernel_rfl
theorem cardindexlaw07_SorterNumbers.calls (ok : Okay Try.prog)  {w : World} {K : Value → World → Prop} (h : cardindexlaw07_SorterNumbers.W  w K) : CallsV Try.prog 9 #[] w K :=
  fnW_calls ok Try.func9 (an := (.named (.seq .auto (.seq .auto (.seq .auto (.seq .auto (.seq .auto (.seq .auto (.seq .auto (.seq .auto (.seq (.seq .auto (.block (.loop [(100, .one (.int .i64))] .auto))) (.seq .auto (.seq .auto (.seq .auto (.seq .auto (.seq .auto (.seq .auto (.seq .auto (.seq .auto (.seq .auto (.seq .auto (.seq .auto (.seq .auto (.seq .auto (.seq (.seq .auto (.block (.loop [(25, .one (.int .i64))] .auto))) .auto))))))))))))))))))))))))) (args := []) (by rw [← cardindexlaw07_SorterNumbers.eq]; exact h)
end Go.Proofs.Ytakmlaliglmnmaa
