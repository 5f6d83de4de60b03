/- The preconditions of Go functions, printed by a program of this workplace (nests.py); each is proved to be the engine's own. -/
import Derived.Test.YtbpcfkahnhlahaaProg
import Derived.Test.YtbpcfkahnhlahaaSxWp
set_option linter.unusedVariables false
set_option maxRecDepth 100000
namespace Go.Proofs.Ytbpcfkahnhlahaa
open Go Go.Sx
noncomputable def cardindexlaw01_BytesTells.W : Int → Option Addr → Nat → Nat → Int → Int → Int → Option Addr → Nat → Nat → World → (Value → World → Prop) → Prop := fun (n : Int) (b_A : Option Go.Addr)
 (b_n b_c : Nat) (atx many most : Int) (l_A : Option Go.Addr) (l_n l_c : Nat) (w : Go.World) (K : Go.Value → Go.World → Prop) => bif Decidable.decide ((600 : Int) < (↑b_n : Int)) then Go.Sx.CallsV
 Go.Proofs.Try.prog (14 : Nat) #[] w fun (v : Go.Value) (w' : Go.World) => ∃ (x : Bool), v = Go.Value.bool x ∧ K (Go.Value.bool x) w' else bif Decidable.decide ((20 : Int) < (↑l_n : Int)) then
 Go.Sx.CallsV Go.Proofs.Try.prog (14 : Nat) #[] w fun (v : Go.Value) (w' : Go.World) => ∃ (x : Bool), v = Go.Value.bool x ∧ K (Go.Value.bool x) w' else ∃ (I : Int → Go.World → Prop), ∃ (μ : Int →
 Go.World → Nat), I (0 : Int) w ∧ ∀ (x : Int) (w : Go.World), I x w → bif Decidable.decide (x < (↑l_n : Int)) then ∃ (ad : Go.Addr), l_A = Option.some ad ∧ ((0 : Int) ≤ x ∧ x < (↑l_n : Int)) ∧ ∃ (x_1 :
 Option Go.Addr), ∃ (x_2 : Nat), ∃ (x_3 : Nat), Go.World.cell? w (Go.Addr.add ad (Int.toNat x * (1 : Nat))) = Option.some (Go.Value.slice x_1 x_2 x_3) ∧ bif Decidable.decide ((100 : Int) < (↑x_2 : Int))
 then Go.Sx.CallsV Go.Proofs.Try.prog (14 : Nat) #[] w fun (v : Go.Value) (w' : Go.World) => ∃ (x : Bool), v = Go.Value.bool x ∧ K (Go.Value.bool x) w' else I (Go.IntKind.wrap Go.IntKind.i64 (x + (1 :
 Int))) w ∧ μ (Go.IntKind.wrap Go.IntKind.i64 (x + (1 : Int))) w < μ x w else ∃ (x : ByteArray), ∃ (w' : Go.World), Go.Sx.RunsTo Go.Proofs.Try.prog (Go.convert (30 : Nat) (9 : Nat) (Go.Value.slice b_A
 b_n b_c)) w (Go.Value.string x) w' ∧ ∃ (x_1 : Option Go.Addr), ∃ (x_2 : Nat), ∃ (x_3 : Nat), ∃ (w'_1 : Go.World), Go.Sx.RunsTo Go.Proofs.Try.prog (Go.convert (9 : Nat) (30 : Nat) (Go.Value.string x))
 w' (Go.Value.slice x_1 x_2 x_3) w'_1 ∧ Go.Sx.CallsV Go.Proofs.Try.prog (15 : Nat) #[Go.Value.slice x_1 x_2 x_3, Go.Value.int Go.IntKind.i64 atx] w'_1 fun (v : Go.Value) (w' : Go.World) => ∃ (x : Int),
 ∃ (x_4 : Int), ∃ (x_5 : Int), v = Go.Value.tuple #[Go.Value.int Go.IntKind.u64 x, Go.Value.int Go.IntKind.i64 x_4, Go.Value.int Go.IntKind.i64 x_5] ∧ Go.Sx.CallsV Go.Proofs.Try.prog (16 : Nat)
 #[Go.Value.slice b_A b_n b_c, Go.Value.int Go.IntKind.i64 atx] w' fun (v : Go.Value) (w' : Go.World) => ∃ (x_6 : Int), ∃ (x_7 : Int), ∃ (x_8 : Int), v = Go.Value.tuple #[Go.Value.int Go.IntKind.u64
 x_6, Go.Value.int Go.IntKind.i64 x_7, Go.Value.int Go.IntKind.i64 x_8] ∧ bif !Decidable.decide (x = x_6) then K (Go.Value.bool Bool.false) w' else bif !Decidable.decide (x_4 = x_7) then K
 (Go.Value.bool Bool.false) w' else bif !Decidable.decide (x_5 = x_8) then K (Go.Value.bool Bool.false) w' else Go.Sx.CallsV Go.Proofs.Try.prog (12 : Nat) #[Go.Value.slice x_1 x_2 x_3, Go.Value.int
 Go.IntKind.i64 atx, Go.Value.int Go.IntKind.i64 most] w' fun (v : Go.Value) (w' : Go.World) => ∃ (x : Option Go.Addr), ∃ (x_9 : Nat), ∃ (x_10 : Nat), ∃ (x_11 : Int), ∃ (x_12 : Int), v = Go.Value.tuple
 #[Go.Value.slice x x_9 x_10, Go.Value.int Go.IntKind.i64 x_11, Go.Value.int Go.IntKind.i64 x_12] ∧ Go.Sx.CallsV Go.Proofs.Try.prog (17 : Nat) #[Go.Value.slice b_A b_n b_c, Go.Value.int Go.IntKind.i64
 atx, Go.Value.int Go.IntKind.i64 most] w' fun (v : Go.Value) (w' : Go.World) => ∃ (x_13 : Option Go.Addr), ∃ (x_14 : Nat), ∃ (x_15 : Nat), ∃ (x_16 : Int), ∃ (x_17 : Int), v = Go.Value.tuple
 #[Go.Value.slice x_13 x_14 x_15, Go.Value.int Go.IntKind.i64 x_16, Go.Value.int Go.IntKind.i64 x_17] ∧ ∃ (x_18 : ByteArray), ∃ (w'_2 : Go.World), Go.Sx.RunsTo Go.Proofs.Try.prog (Go.convert (30 : Nat)
 (9 : Nat) (Go.Value.slice x x_9 x_10)) w' (Go.Value.string x_18) w'_2 ∧ ∃ (x : ByteArray), ∃ (w' : Go.World), Go.Sx.RunsTo Go.Proofs.Try.prog (Go.convert (30 : Nat) (9 : Nat) (Go.Value.slice x_13 x_14
 x_15)) w'_2 (Go.Value.string x) w' ∧ bif !ByteArray.toList x_18 == ByteArray.toList x then K (Go.Value.bool Bool.false) w' else bif !Decidable.decide (x_11 = x_16) then K (Go.Value.bool Bool.false) w'
 else bif !Decidable.decide (x_12 = x_17) then K (Go.Value.bool Bool.false) w' else Go.Sx.CallsV Go.Proofs.Try.prog (13 : Nat) #[Go.Value.slice x_1 x_2 x_3, Go.Value.int Go.IntKind.i64 atx, Go.Value.int
 Go.IntKind.i64 many, Go.Value.int Go.IntKind.i64 most] w' fun (v : Go.Value) (w' : Go.World) => ∃ (x : Option Go.Addr), ∃ (x_19 : Nat), ∃ (x_20 : Nat), ∃ (x_21 : Int), ∃ (x_22 : Int), v =
 Go.Value.tuple #[Go.Value.slice x x_19 x_20, Go.Value.int Go.IntKind.i64 x_21, Go.Value.int Go.IntKind.i64 x_22] ∧ Go.Sx.CallsV Go.Proofs.Try.prog (18 : Nat) #[Go.Value.slice b_A b_n b_c, Go.Value.int
 Go.IntKind.i64 atx, Go.Value.int Go.IntKind.i64 many, Go.Value.int Go.IntKind.i64 most] w' fun (v : Go.Value) (w' : Go.World) => ∃ (x_23 : Option Go.Addr), ∃ (x_24 : Nat), ∃ (x_25 : Nat), ∃ (x_26 :
 Int), ∃ (x_27 : Int), v = Go.Value.tuple #[Go.Value.slice x_23 x_24 x_25, Go.Value.int Go.IntKind.i64 x_26, Go.Value.int Go.IntKind.i64 x_27] ∧ Go.Sx.CallsV Go.Proofs.Try.prog (19 : Nat)
 #[Go.Value.slice x x_19 x_20, Go.Value.slice x_23 x_24 x_25] w' fun (v : Go.Value) (w' : Go.World) => ∃ (x : Bool), v = Go.Value.bool x ∧ bif !x then K (Go.Value.bool Bool.false) w' else bif
 !Decidable.decide (x_21 = x_26) then K (Go.Value.bool Bool.false) w' else bif !Decidable.decide (x_22 = x_27) then K (Go.Value.bool Bool.false) w' else ∃ (x : ByteArray), ∃ (w'_3 : Go.World),
 Go.Sx.RunsTo Go.Proofs.Try.prog (Go.convert (30 : Nat) (9 : Nat) (Go.Value.slice x_1 x_2 x_3)) w' (Go.Value.string x) w'_3 ∧ ∃ (x_28 : ByteArray), ∃ (w' : Go.World), Go.Sx.RunsTo Go.Proofs.Try.prog
 (Go.convert (30 : Nat) (9 : Nat) (Go.Value.slice b_A b_n b_c)) w'_3 (Go.Value.string x_28) w' ∧ bif !ByteArray.toList x == ByteArray.toList x_28 then K (Go.Value.bool Bool.false) w' else ∃ (S :
 Go.World → Prop), S (Go.World.drew w') ∧ ∃ (r : ByteArray), (∀ (u : Go.World), S u → Go.Sx.RunsTo Go.Proofs.Try.prog (Go.convert (30 : Nat) (9 : Nat) (Go.Value.slice b_A b_n b_c)) u (Go.Value.string r)
 u) ∧ ∃ (r_1 : ByteArray), (∀ (u : Go.World), S u → Go.Sx.RunsTo Go.Proofs.Try.prog (Go.convert (30 : Nat) (9 : Nat) (Go.Value.slice b_A b_n b_c)) u (Go.Value.string r_1) u) ∧ ∃ (r_2 : ByteArray), (∀ (u
 : Go.World), S u → Go.Sx.RunsTo Go.Proofs.Try.prog (Go.convert (30 : Nat) (9 : Nat) (Go.Value.slice b_A b_n b_c)) u (Go.Value.string r_2) u) ∧ (∃ (x : Option Go.Addr), ∃ (x_29 : Nat), ∃ (x_30 : Nat), ∃
 (w'_4 : Go.World), Go.Sx.RunsTo Go.Proofs.Try.prog (Go.convert (9 : Nat) (30 : Nat) (Go.Value.string r)) (Go.World.drew w') (Go.Value.slice x x_29 x_30) w'_4 ∧ S w'_4 ∧ (Go.Sx.CallsV Go.Proofs.Try.prog
 (20 : Nat) #[Go.Value.slice x x_29 x_30, Go.Value.int Go.IntKind.u64 n] w'_4 fun (v : Go.Value) (w' : Go.World) => ∃ (x : Option Go.Addr), ∃ (x_31 : Nat), ∃ (x_32 : Nat), v = Go.Value.slice x x_31 x_32
 ∧ S w' ∧ (∃ (x_33 : Option Go.Addr), ∃ (x_34 : Nat), ∃ (x_35 : Nat), ∃ (w'_5 : Go.World), Go.Sx.RunsTo Go.Proofs.Try.prog (Go.convert (9 : Nat) (30 : Nat) (Go.Value.string r_1)) w' (Go.Value.slice x_33
 x_34 x_35) w'_5 ∧ S w'_5 ∧ (Go.Sx.CallsV Go.Proofs.Try.prog (21 : Nat) #[Go.Value.slice x_33 x_34 x_35, Go.Value.slice x_1 x_2 x_3] w'_5 fun (v : Go.Value) (w' : Go.World) => ∃ (x_36 : Option Go.Addr),
 ∃ (x_37 : Nat), ∃ (x_38 : Nat), v = Go.Value.slice x_36 x_37 x_38 ∧ S w' ∧ ∃ (x_39 : Option Go.Addr), ∃ (x_40 : Nat), ∃ (x_41 : Nat), ∃ (w'_6 : Go.World), Go.Sx.RunsTo Go.Proofs.Try.prog (Go.convert (9
 : Nat) (30 : Nat) (Go.Value.string r_2)) w' (Go.Value.slice x_39 x_40 x_41) w'_6 ∧ Go.Sx.CallsV Go.Proofs.Try.prog (22 : Nat) #[Go.Value.slice x_39 x_40 x_41, Go.Value.slice l_A l_n l_c] w'_6 fun (v :
 Go.Value) (w' : Go.World) => ∃ (x_42 : Option Go.Addr), ∃ (x_43 : Nat), ∃ (x_44 : Nat), v = Go.Value.slice x_42 x_43 x_44 ∧ ∃ (S : Go.World → Prop), S (Go.World.drew w') ∧ ∃ (r : ByteArray), (∀ (u :
 Go.World), S u → Go.Sx.RunsTo Go.Proofs.Try.prog (Go.convert (30 : Nat) (9 : Nat) (Go.Value.slice x x_31 x_32)) u (Go.Value.string r) u) ∧ Go.Sx.CallsV Go.Proofs.Try.prog (23 : Nat) #[Go.Value.slice
 b_A b_n b_c, Go.Value.int Go.IntKind.u64 n] (Go.World.drew w') fun (v : Go.Value) (w' : Go.World) => ∃ (x : Option Go.Addr), ∃ (x_45 : Nat), ∃ (x_46 : Nat), v = Go.Value.slice x x_45 x_46 ∧ S w' ∧ ∃
 (S_1 : Go.World → Prop), S_1 w' ∧ ∃ (r_3 : ByteArray), (∀ (u : Go.World), S_1 u → Go.Sx.RunsTo Go.Proofs.Try.prog (Go.convert (30 : Nat) (9 : Nat) (Go.Value.slice x x_45 x_46)) u (Go.Value.string r_3)
 u) ∧ bif ByteArray.toList r == ByteArray.toList r_3 then ∃ (r : ByteArray), (∀ (u : Go.World), S_1 u → Go.Sx.RunsTo Go.Proofs.Try.prog (Go.convert (30 : Nat) (9 : Nat) (Go.Value.slice x_36 x_37 x_38))
 u (Go.Value.string r) u) ∧ Go.Sx.CallsV Go.Proofs.Try.prog (24 : Nat) #[Go.Value.slice b_A b_n b_c, Go.Value.slice b_A b_n b_c] w' fun (v : Go.Value) (w' : Go.World) => ∃ (x : Option Go.Addr), ∃ (x_47
 : Nat), ∃ (x_48 : Nat), v = Go.Value.slice x x_47 x_48 ∧ S_1 w' ∧ S w' ∧ ∃ (S_2 : Go.World → Prop), S_2 w' ∧ ∃ (r_4 : ByteArray), (∀ (u : Go.World), S_2 u → Go.Sx.RunsTo Go.Proofs.Try.prog (Go.convert
 (30 : Nat) (9 : Nat) (Go.Value.slice x x_47 x_48)) u (Go.Value.string r_4) u) ∧ bif ByteArray.toList r == ByteArray.toList r_4 then ∃ (r : ByteArray), (∀ (u : Go.World), S_2 u → Go.Sx.RunsTo
 Go.Proofs.Try.prog (Go.convert (30 : Nat) (9 : Nat) (Go.Value.slice x_42 x_43 x_44)) u (Go.Value.string r) u) ∧ Go.Sx.CallsV Go.Proofs.Try.prog (25 : Nat) #[Go.Value.slice b_A b_n b_c, Go.Value.slice
 l_A l_n l_c] w' fun (v : Go.Value) (w' : Go.World) => ∃ (x : Option Go.Addr), ∃ (x_49 : Nat), ∃ (x_50 : Nat), v = Go.Value.slice x x_49 x_50 ∧ S_2 w' ∧ S_1 w' ∧ S w' ∧ ∃ (S_3 : Go.World → Prop), S_3 w'
 ∧ ∃ (r_5 : ByteArray), (∀ (u : Go.World), S_3 u → Go.Sx.RunsTo Go.Proofs.Try.prog (Go.convert (30 : Nat) (9 : Nat) (Go.Value.slice x x_49 x_50)) u (Go.Value.string r_5) u) ∧ bif ByteArray.toList r ==
 ByteArray.toList r_5 then ∃ (r : ByteArray), (∀ (u : Go.World), S_3 u → Go.Sx.RunsTo Go.Proofs.Try.prog (Go.convert (30 : Nat) (9 : Nat) (Go.Value.slice x_1 x_2 x_3)) u (Go.Value.string r) u) ∧ ∃ (r_6
 : ByteArray), (∀ (u : Go.World), S_3 u → Go.Sx.RunsTo Go.Proofs.Try.prog (Go.convert (30 : Nat) (9 : Nat) (Go.Value.slice b_A b_n b_c)) u (Go.Value.string r_6) u) ∧ bif ByteArray.toList r ==
 ByteArray.toList r_6 then Go.Sx.CallsV Go.Proofs.Try.prog (14 : Nat) #[] w' fun (v : Go.Value) (w' : Go.World) => ∃ (x : Bool), v = Go.Value.bool x ∧ S_3 w' ∧ S_2 w' ∧ S_1 w' ∧ S w' ∧ K (Go.Value.bool
 x) w' else K (Go.Value.bool Bool.false) w' else K (Go.Value.bool Bool.false) w' else K (Go.Value.bool Bool.false) w' else K (Go.Value.bool Bool.false) w') ∧ ∃ (x_36 : Option Go.Addr), ∃ (x_37 : Nat), ∃
 (x_38 : Nat), ∃ (w' : Go.World), Go.Sx.RunsTo Go.Proofs.Try.prog (Go.convert (9 : Nat) (30 : Nat) (Go.Value.string r_2)) w'_5 (Go.Value.slice x_36 x_37 x_38) w' ∧ Go.Sx.CallsV Go.Proofs.Try.prog (21 :
 Nat) #[Go.Value.slice x_33 x_34 x_35, Go.Value.slice x_1 x_2 x_3] w' fun (v : Go.Value) (w' : Go.World) => ∃ (x_39 : Option Go.Addr), ∃ (x_40 : Nat), ∃ (x_41 : Nat), v = Go.Value.slice x_39 x_40 x_41 ∧
 Go.Sx.CallsV Go.Proofs.Try.prog (22 : Nat) #[Go.Value.slice x_36 x_37 x_38, Go.Value.slice l_A l_n l_c] w' fun (v : Go.Value) (w' : Go.World) => ∃ (x_42 : Option Go.Addr), ∃ (x_43 : Nat), ∃ (x_44 :
 Nat), v = Go.Value.slice x_42 x_43 x_44 ∧ ∃ (S : Go.World → Prop), S (Go.World.drew w') ∧ ∃ (r : ByteArray), (∀ (u : Go.World), S u → Go.Sx.RunsTo Go.Proofs.Try.prog (Go.convert (30 : Nat) (9 : Nat)
 (Go.Value.slice x x_31 x_32)) u (Go.Value.string r) u) ∧ Go.Sx.CallsV Go.Proofs.Try.prog (23 : Nat) #[Go.Value.slice b_A b_n b_c, Go.Value.int Go.IntKind.u64 n] (Go.World.drew w') fun (v : Go.Value)
 (w' : Go.World) => ∃ (x : Option Go.Addr), ∃ (x_45 : Nat), ∃ (x_46 : Nat), v = Go.Value.slice x x_45 x_46 ∧ S w' ∧ ∃ (S_1 : Go.World → Prop), S_1 w' ∧ ∃ (r_3 : ByteArray), (∀ (u : Go.World), S_1 u →
 Go.Sx.RunsTo Go.Proofs.Try.prog (Go.convert (30 : Nat) (9 : Nat) (Go.Value.slice x x_45 x_46)) u (Go.Value.string r_3) u) ∧ bif ByteArray.toList r == ByteArray.toList r_3 then ∃ (r : ByteArray), (∀ (u
 : Go.World), S_1 u → Go.Sx.RunsTo Go.Proofs.Try.prog (Go.convert (30 : Nat) (9 : Nat) (Go.Value.slice x_39 x_40 x_41)) u (Go.Value.string r) u) ∧ Go.Sx.CallsV Go.Proofs.Try.prog (24 : Nat)
 #[Go.Value.slice b_A b_n b_c, Go.Value.slice b_A b_n b_c] w' fun (v : Go.Value) (w' : Go.World) => ∃ (x : Option Go.Addr), ∃ (x_47 : Nat), ∃ (x_48 : Nat), v = Go.Value.slice x x_47 x_48 ∧ S_1 w' ∧ S w'
 ∧ ∃ (S_2 : Go.World → Prop), S_2 w' ∧ ∃ (r_4 : ByteArray), (∀ (u : Go.World), S_2 u → Go.Sx.RunsTo Go.Proofs.Try.prog (Go.convert (30 : Nat) (9 : Nat) (Go.Value.slice x x_47 x_48)) u (Go.Value.string
 r_4) u) ∧ bif ByteArray.toList r == ByteArray.toList r_4 then ∃ (r : ByteArray), (∀ (u : Go.World), S_2 u → Go.Sx.RunsTo Go.Proofs.Try.prog (Go.convert (30 : Nat) (9 : Nat) (Go.Value.slice x_42 x_43
 x_44)) u (Go.Value.string r) u) ∧ Go.Sx.CallsV Go.Proofs.Try.prog (25 : Nat) #[Go.Value.slice b_A b_n b_c, Go.Value.slice l_A l_n l_c] w' fun (v : Go.Value) (w' : Go.World) => ∃ (x : Option Go.Addr), ∃
 (x_49 : Nat), ∃ (x_50 : Nat), v = Go.Value.slice x x_49 x_50 ∧ S_2 w' ∧ S_1 w' ∧ S w' ∧ ∃ (S_3 : Go.World → Prop), S_3 w' ∧ ∃ (r_5 : ByteArray), (∀ (u : Go.World), S_3 u → Go.Sx.RunsTo
 Go.Proofs.Try.prog (Go.convert (30 : Nat) (9 : Nat) (Go.Value.slice x x_49 x_50)) u (Go.Value.string r_5) u) ∧ bif ByteArray.toList r == ByteArray.toList r_5 then ∃ (r : ByteArray), (∀ (u : Go.World),
 S_3 u → Go.Sx.RunsTo Go.Proofs.Try.prog (Go.convert (30 : Nat) (9 : Nat) (Go.Value.slice x_1 x_2 x_3)) u (Go.Value.string r) u) ∧ ∃ (r_6 : ByteArray), (∀ (u : Go.World), S_3 u → Go.Sx.RunsTo
 Go.Proofs.Try.prog (Go.convert (30 : Nat) (9 : Nat) (Go.Value.slice b_A b_n b_c)) u (Go.Value.string r_6) u) ∧ bif ByteArray.toList r == ByteArray.toList r_6 then Go.Sx.CallsV Go.Proofs.Try.prog (14 :
 Nat) #[] w' fun (v : Go.Value) (w' : Go.World) => ∃ (x : Bool), v = Go.Value.bool x ∧ S_3 w' ∧ S_2 w' ∧ S_1 w' ∧ S w' ∧ K (Go.Value.bool x) w' else K (Go.Value.bool Bool.false) w' else K (Go.Value.bool
 Bool.false) w' else K (Go.Value.bool Bool.false) w' else K (Go.Value.bool Bool.false) w') ∧ ∃ (x_33 : Option Go.Addr), ∃ (x_34 : Nat), ∃ (x_35 : Nat), ∃ (w'_5 : Go.World), Go.Sx.RunsTo
 Go.Proofs.Try.prog (Go.convert (9 : Nat) (30 : Nat) (Go.Value.string r_2)) w' (Go.Value.slice x_33 x_34 x_35) w'_5 ∧ S w'_5 ∧ ∃ (x_36 : Option Go.Addr), ∃ (x_37 : Nat), ∃ (x_38 : Nat), ∃ (w' :
 Go.World), Go.Sx.RunsTo Go.Proofs.Try.prog (Go.convert (9 : Nat) (30 : Nat) (Go.Value.string r_1)) w'_5 (Go.Value.slice x_36 x_37 x_38) w' ∧ Go.Sx.CallsV Go.Proofs.Try.prog (21 : Nat) #[Go.Value.slice
 x_36 x_37 x_38, Go.Value.slice x_1 x_2 x_3] w' fun (v : Go.Value) (w' : Go.World) => ∃ (x_39 : Option Go.Addr), ∃ (x_40 : Nat), ∃ (x_41 : Nat), v = Go.Value.slice x_39 x_40 x_41 ∧ Go.Sx.CallsV
 Go.Proofs.Try.prog (22 : Nat) #[Go.Value.slice x_33 x_34 x_35, Go.Value.slice l_A l_n l_c] w' fun (v : Go.Value) (w' : Go.World) => ∃ (x_42 : Option Go.Addr), ∃ (x_43 : Nat), ∃ (x_44 : Nat), v =
 Go.Value.slice x_42 x_43 x_44 ∧ ∃ (S : Go.World → Prop), S (Go.World.drew w') ∧ ∃ (r : ByteArray), (∀ (u : Go.World), S u → Go.Sx.RunsTo Go.Proofs.Try.prog (Go.convert (30 : Nat) (9 : Nat)
 (Go.Value.slice x x_31 x_32)) u (Go.Value.string r) u) ∧ Go.Sx.CallsV Go.Proofs.Try.prog (23 : Nat) #[Go.Value.slice b_A b_n b_c, Go.Value.int Go.IntKind.u64 n] (Go.World.drew w') fun (v : Go.Value)
 (w' : Go.World) => ∃ (x : Option Go.Addr), ∃ (x_45 : Nat), ∃ (x_46 : Nat), v = Go.Value.slice x x_45 x_46 ∧ S w' ∧ ∃ (S_1 : Go.World → Prop), S_1 w' ∧ ∃ (r_3 : ByteArray), (∀ (u : Go.World), S_1 u →
 Go.Sx.RunsTo Go.Proofs.Try.prog (Go.convert (30 : Nat) (9 : Nat) (Go.Value.slice x x_45 x_46)) u (Go.Value.string r_3) u) ∧ bif ByteArray.toList r == ByteArray.toList r_3 then ∃ (r : ByteArray), (∀ (u
 : Go.World), S_1 u → Go.Sx.RunsTo Go.Proofs.Try.prog (Go.convert (30 : Nat) (9 : Nat) (Go.Value.slice x_39 x_40 x_41)) u (Go.Value.string r) u) ∧ Go.Sx.CallsV Go.Proofs.Try.prog (24 : Nat)
 #[Go.Value.slice b_A b_n b_c, Go.Value.slice b_A b_n b_c] w' fun (v : Go.Value) (w' : Go.World) => ∃ (x : Option Go.Addr), ∃ (x_47 : Nat), ∃ (x_48 : Nat), v = Go.Value.slice x x_47 x_48 ∧ S_1 w' ∧ S w'
 ∧ ∃ (S_2 : Go.World → Prop), S_2 w' ∧ ∃ (r_4 : ByteArray), (∀ (u : Go.World), S_2 u → Go.Sx.RunsTo Go.Proofs.Try.prog (Go.convert (30 : Nat) (9 : Nat) (Go.Value.slice x x_47 x_48)) u (Go.Value.string
 r_4) u) ∧ bif ByteArray.toList r == ByteArray.toList r_4 then ∃ (r : ByteArray), (∀ (u : Go.World), S_2 u → Go.Sx.RunsTo Go.Proofs.Try.prog (Go.convert (30 : Nat) (9 : Nat) (Go.Value.slice x_42 x_43
 x_44)) u (Go.Value.string r) u) ∧ Go.Sx.CallsV Go.Proofs.Try.prog (25 : Nat) #[Go.Value.slice b_A b_n b_c, Go.Value.slice l_A l_n l_c] w' fun (v : Go.Value) (w' : Go.World) => ∃ (x : Option Go.Addr), ∃
 (x_49 : Nat), ∃ (x_50 : Nat), v = Go.Value.slice x x_49 x_50 ∧ S_2 w' ∧ S_1 w' ∧ S w' ∧ ∃ (S_3 : Go.World → Prop), S_3 w' ∧ ∃ (r_5 : ByteArray), (∀ (u : Go.World), S_3 u → Go.Sx.RunsTo
 Go.Proofs.Try.prog (Go.convert (30 : Nat) (9 : Nat) (Go.Value.slice x x_49 x_50)) u (Go.Value.string r_5) u) ∧ bif ByteArray.toList r == ByteArray.toList r_5 then ∃ (r : ByteArray), (∀ (u : Go.World),
 S_3 u → Go.Sx.RunsTo Go.Proofs.Try.prog (Go.convert (30 : Nat) (9 : Nat) (Go.Value.slice x_1 x_2 x_3)) u (Go.Value.string r) u) ∧ ∃ (r_6 : ByteArray), (∀ (u : Go.World), S_3 u → Go.Sx.RunsTo
 Go.Proofs.Try.prog (Go.convert (30 : Nat) (9 : Nat) (Go.Value.slice b_A b_n b_c)) u (Go.Value.string r_6) u) ∧ bif ByteArray.toList r == ByteArray.toList r_6 then Go.Sx.CallsV Go.Proofs.Try.prog (14 :
 Nat) #[] w' fun (v : Go.Value) (w' : Go.World) => ∃ (x : Bool), v = Go.Value.bool x ∧ S_3 w' ∧ S_2 w' ∧ S_1 w' ∧ S w' ∧ K (Go.Value.bool x) w' else K (Go.Value.bool Bool.false) w' else K (Go.Value.bool
 Bool.false) w' else K (Go.Value.bool Bool.false) w' else K (Go.Value.bool Bool.false) w') ∧ (∃ (x_31 : Option Go.Addr), ∃ (x_32 : Nat), ∃ (x_33 : Nat), ∃ (w' : Go.World), Go.Sx.RunsTo
 Go.Proofs.Try.prog (Go.convert (9 : Nat) (30 : Nat) (Go.Value.string r_1)) w'_4 (Go.Value.slice x_31 x_32 x_33) w' ∧ S w' ∧ (Go.Sx.CallsV Go.Proofs.Try.prog (20 : Nat) #[Go.Value.slice x x_29 x_30,
 Go.Value.int Go.IntKind.u64 n] w' fun (v : Go.Value) (w' : Go.World) => ∃ (x : Option Go.Addr), ∃ (x_34 : Nat), ∃ (x_35 : Nat), v = Go.Value.slice x x_34 x_35 ∧ S w' ∧ (Go.Sx.CallsV Go.Proofs.Try.prog
 (21 : Nat) #[Go.Value.slice x_31 x_32 x_33, Go.Value.slice x_1 x_2 x_3] w' fun (v : Go.Value) (w' : Go.World) => ∃ (x_36 : Option Go.Addr), ∃ (x_37 : Nat), ∃ (x_38 : Nat), v = Go.Value.slice x_36 x_37
 x_38 ∧ S w' ∧ ∃ (x_39 : Option Go.Addr), ∃ (x_40 : Nat), ∃ (x_41 : Nat), ∃ (w'_5 : Go.World), Go.Sx.RunsTo Go.Proofs.Try.prog (Go.convert (9 : Nat) (30 : Nat) (Go.Value.string r_2)) w' (Go.Value.slice
 x_39 x_40 x_41) w'_5 ∧ Go.Sx.CallsV Go.Proofs.Try.prog (22 : Nat) #[Go.Value.slice x_39 x_40 x_41, Go.Value.slice l_A l_n l_c] w'_5 fun (v : Go.Value) (w' : Go.World) => ∃ (x_42 : Option Go.Addr), ∃
 (x_43 : Nat), ∃ (x_44 : Nat), v = Go.Value.slice x_42 x_43 x_44 ∧ ∃ (S : Go.World → Prop), S (Go.World.drew w') ∧ ∃ (r : ByteArray), (∀ (u : Go.World), S u → Go.Sx.RunsTo Go.Proofs.Try.prog (Go.convert
 (30 : Nat) (9 : Nat) (Go.Value.slice x x_34 x_35)) u (Go.Value.string r) u) ∧ Go.Sx.CallsV Go.Proofs.Try.prog (23 : Nat) #[Go.Value.slice b_A b_n b_c, Go.Value.int Go.IntKind.u64 n] (Go.World.drew w')
 fun (v : Go.Value) (w' : Go.World) => ∃ (x : Option Go.Addr), ∃ (x_45 : Nat), ∃ (x_46 : Nat), v = Go.Value.slice x x_45 x_46 ∧ S w' ∧ ∃ (S_1 : Go.World → Prop), S_1 w' ∧ ∃ (r_3 : ByteArray), (∀ (u :
 Go.World), S_1 u → Go.Sx.RunsTo Go.Proofs.Try.prog (Go.convert (30 : Nat) (9 : Nat) (Go.Value.slice x x_45 x_46)) u (Go.Value.string r_3) u) ∧ bif ByteArray.toList r == ByteArray.toList r_3 then ∃ (r :
 ByteArray), (∀ (u : Go.World), S_1 u → Go.Sx.RunsTo Go.Proofs.Try.prog (Go.convert (30 : Nat) (9 : Nat) (Go.Value.slice x_36 x_37 x_38)) u (Go.Value.string r) u) ∧ Go.Sx.CallsV Go.Proofs.Try.prog (24 :
 Nat) #[Go.Value.slice b_A b_n b_c, Go.Value.slice b_A b_n b_c] w' fun (v : Go.Value) (w' : Go.World) => ∃ (x : Option Go.Addr), ∃ (x_47 : Nat), ∃ (x_48 : Nat), v = Go.Value.slice x x_47 x_48 ∧ S_1 w' ∧
 S w' ∧ ∃ (S_2 : Go.World → Prop), S_2 w' ∧ ∃ (r_4 : ByteArray), (∀ (u : Go.World), S_2 u → Go.Sx.RunsTo Go.Proofs.Try.prog (Go.convert (30 : Nat) (9 : Nat) (Go.Value.slice x x_47 x_48)) u
 (Go.Value.string r_4) u) ∧ bif ByteArray.toList r == ByteArray.toList r_4 then ∃ (r : ByteArray), (∀ (u : Go.World), S_2 u → Go.Sx.RunsTo Go.Proofs.Try.prog (Go.convert (30 : Nat) (9 : Nat)
 (Go.Value.slice x_42 x_43 x_44)) u (Go.Value.string r) u) ∧ Go.Sx.CallsV Go.Proofs.Try.prog (25 : Nat) #[Go.Value.slice b_A b_n b_c, Go.Value.slice l_A l_n l_c] w' fun (v : Go.Value) (w' : Go.World) =>
 ∃ (x : Option Go.Addr), ∃ (x_49 : Nat), ∃ (x_50 : Nat), v = Go.Value.slice x x_49 x_50 ∧ S_2 w' ∧ S_1 w' ∧ S w' ∧ ∃ (S_3 : Go.World → Prop), S_3 w' ∧ ∃ (r_5 : ByteArray), (∀ (u : Go.World), S_3 u →
 Go.Sx.RunsTo Go.Proofs.Try.prog (Go.convert (30 : Nat) (9 : Nat) (Go.Value.slice x x_49 x_50)) u (Go.Value.string r_5) u) ∧ bif ByteArray.toList r == ByteArray.toList r_5 then ∃ (r : ByteArray), (∀ (u
 : Go.World), S_3 u → Go.Sx.RunsTo Go.Proofs.Try.prog (Go.convert (30 : Nat) (9 : Nat) (Go.Value.slice x_1 x_2 x_3)) u (Go.Value.string r) u) ∧ ∃ (r_6 : ByteArray), (∀ (u : Go.World), S_3 u →
 Go.Sx.RunsTo Go.Proofs.Try.prog (Go.convert (30 : Nat) (9 : Nat) (Go.Value.slice b_A b_n b_c)) u (Go.Value.string r_6) u) ∧ bif ByteArray.toList r == ByteArray.toList r_6 then Go.Sx.CallsV
 Go.Proofs.Try.prog (14 : Nat) #[] w' fun (v : Go.Value) (w' : Go.World) => ∃ (x : Bool), v = Go.Value.bool x ∧ S_3 w' ∧ S_2 w' ∧ S_1 w' ∧ S w' ∧ K (Go.Value.bool x) w' else K (Go.Value.bool Bool.false)
 w' else K (Go.Value.bool Bool.false) w' else K (Go.Value.bool Bool.false) w' else K (Go.Value.bool Bool.false) w') ∧ ∃ (x_36 : Option Go.Addr), ∃ (x_37 : Nat), ∃ (x_38 : Nat), ∃ (w'_5 : Go.World),
 Go.Sx.RunsTo Go.Proofs.Try.prog (Go.convert (9 : Nat) (30 : Nat) (Go.Value.string r_2)) w' (Go.Value.slice x_36 x_37 x_38) w'_5 ∧ Go.Sx.CallsV Go.Proofs.Try.prog (21 : Nat) #[Go.Value.slice x_31 x_32
 x_33, Go.Value.slice x_1 x_2 x_3] w'_5 fun (v : Go.Value) (w' : Go.World) => ∃ (x_39 : Option Go.Addr), ∃ (x_40 : Nat), ∃ (x_41 : Nat), v = Go.Value.slice x_39 x_40 x_41 ∧ Go.Sx.CallsV
 Go.Proofs.Try.prog (22 : Nat) #[Go.Value.slice x_36 x_37 x_38, Go.Value.slice l_A l_n l_c] w' fun (v : Go.Value) (w' : Go.World) => ∃ (x_42 : Option Go.Addr), ∃ (x_43 : Nat), ∃ (x_44 : Nat), v =
 Go.Value.slice x_42 x_43 x_44 ∧ ∃ (S : Go.World → Prop), S (Go.World.drew w') ∧ ∃ (r : ByteArray), (∀ (u : Go.World), S u → Go.Sx.RunsTo Go.Proofs.Try.prog (Go.convert (30 : Nat) (9 : Nat)
 (Go.Value.slice x x_34 x_35)) u (Go.Value.string r) u) ∧ Go.Sx.CallsV Go.Proofs.Try.prog (23 : Nat) #[Go.Value.slice b_A b_n b_c, Go.Value.int Go.IntKind.u64 n] (Go.World.drew w') fun (v : Go.Value)
 (w' : Go.World) => ∃ (x : Option Go.Addr), ∃ (x_45 : Nat), ∃ (x_46 : Nat), v = Go.Value.slice x x_45 x_46 ∧ S w' ∧ ∃ (S_1 : Go.World → Prop), S_1 w' ∧ ∃ (r_3 : ByteArray), (∀ (u : Go.World), S_1 u →
 Go.Sx.RunsTo Go.Proofs.Try.prog (Go.convert (30 : Nat) (9 : Nat) (Go.Value.slice x x_45 x_46)) u (Go.Value.string r_3) u) ∧ bif ByteArray.toList r == ByteArray.toList r_3 then ∃ (r : ByteArray), (∀ (u
 : Go.World), S_1 u → Go.Sx.RunsTo Go.Proofs.Try.prog (Go.convert (30 : Nat) (9 : Nat) (Go.Value.slice x_39 x_40 x_41)) u (Go.Value.string r) u) ∧ Go.Sx.CallsV Go.Proofs.Try.prog (24 : Nat)
 #[Go.Value.slice b_A b_n b_c, Go.Value.slice b_A b_n b_c] w' fun (v : Go.Value) (w' : Go.World) => ∃ (x : Option Go.Addr), ∃ (x_47 : Nat), ∃ (x_48 : Nat), v = Go.Value.slice x x_47 x_48 ∧ S_1 w' ∧ S w'
 ∧ ∃ (S_2 : Go.World → Prop), S_2 w' ∧ ∃ (r_4 : ByteArray), (∀ (u : Go.World), S_2 u → Go.Sx.RunsTo Go.Proofs.Try.prog (Go.convert (30 : Nat) (9 : Nat) (Go.Value.slice x x_47 x_48)) u (Go.Value.string
 r_4) u) ∧ bif ByteArray.toList r == ByteArray.toList r_4 then ∃ (r : ByteArray), (∀ (u : Go.World), S_2 u → Go.Sx.RunsTo Go.Proofs.Try.prog (Go.convert (30 : Nat) (9 : Nat) (Go.Value.slice x_42 x_43
 x_44)) u (Go.Value.string r) u) ∧ Go.Sx.CallsV Go.Proofs.Try.prog (25 : Nat) #[Go.Value.slice b_A b_n b_c, Go.Value.slice l_A l_n l_c] w' fun (v : Go.Value) (w' : Go.World) => ∃ (x : Option Go.Addr), ∃
 (x_49 : Nat), ∃ (x_50 : Nat), v = Go.Value.slice x x_49 x_50 ∧ S_2 w' ∧ S_1 w' ∧ S w' ∧ ∃ (S_3 : Go.World → Prop), S_3 w' ∧ ∃ (r_5 : ByteArray), (∀ (u : Go.World), S_3 u → Go.Sx.RunsTo
 Go.Proofs.Try.prog (Go.convert (30 : Nat) (9 : Nat) (Go.Value.slice x x_49 x_50)) u (Go.Value.string r_5) u) ∧ bif ByteArray.toList r == ByteArray.toList r_5 then ∃ (r : ByteArray), (∀ (u : Go.World),
 S_3 u → Go.Sx.RunsTo Go.Proofs.Try.prog (Go.convert (30 : Nat) (9 : Nat) (Go.Value.slice x_1 x_2 x_3)) u (Go.Value.string r) u) ∧ ∃ (r_6 : ByteArray), (∀ (u : Go.World), S_3 u → Go.Sx.RunsTo
 Go.Proofs.Try.prog (Go.convert (30 : Nat) (9 : Nat) (Go.Value.slice b_A b_n b_c)) u (Go.Value.string r_6) u) ∧ bif ByteArray.toList r == ByteArray.toList r_6 then Go.Sx.CallsV Go.Proofs.Try.prog (14 :
 Nat) #[] w' fun (v : Go.Value) (w' : Go.World) => ∃ (x : Bool), v = Go.Value.bool x ∧ S_3 w' ∧ S_2 w' ∧ S_1 w' ∧ S w' ∧ K (Go.Value.bool x) w' else K (Go.Value.bool Bool.false) w' else K (Go.Value.bool
 Bool.false) w' else K (Go.Value.bool Bool.false) w' else K (Go.Value.bool Bool.false) w') ∧ ∃ (x_34 : Option Go.Addr), ∃ (x_35 : Nat), ∃ (x_36 : Nat), ∃ (w'_5 : Go.World), Go.Sx.RunsTo
 Go.Proofs.Try.prog (Go.convert (9 : Nat) (30 : Nat) (Go.Value.string r_2)) w' (Go.Value.slice x_34 x_35 x_36) w'_5 ∧ Go.Sx.CallsV Go.Proofs.Try.prog (20 : Nat) #[Go.Value.slice x x_29 x_30,
 Go.Value.int Go.IntKind.u64 n] w'_5 fun (v : Go.Value) (w' : Go.World) => ∃ (x : Option Go.Addr), ∃ (x_37 : Nat), ∃ (x_38 : Nat), v = Go.Value.slice x x_37 x_38 ∧ Go.Sx.CallsV Go.Proofs.Try.prog (21 :
 Nat) #[Go.Value.slice x_31 x_32 x_33, Go.Value.slice x_1 x_2 x_3] w' fun (v : Go.Value) (w' : Go.World) => ∃ (x_39 : Option Go.Addr), ∃ (x_40 : Nat), ∃ (x_41 : Nat), v = Go.Value.slice x_39 x_40 x_41 ∧
 Go.Sx.CallsV Go.Proofs.Try.prog (22 : Nat) #[Go.Value.slice x_34 x_35 x_36, Go.Value.slice l_A l_n l_c] w' fun (v : Go.Value) (w' : Go.World) => ∃ (x_42 : Option Go.Addr), ∃ (x_43 : Nat), ∃ (x_44 :
 Nat), v = Go.Value.slice x_42 x_43 x_44 ∧ ∃ (S : Go.World → Prop), S (Go.World.drew w') ∧ ∃ (r : ByteArray), (∀ (u : Go.World), S u → Go.Sx.RunsTo Go.Proofs.Try.prog (Go.convert (30 : Nat) (9 : Nat)
 (Go.Value.slice x x_37 x_38)) u (Go.Value.string r) u) ∧ Go.Sx.CallsV Go.Proofs.Try.prog (23 : Nat) #[Go.Value.slice b_A b_n b_c, Go.Value.int Go.IntKind.u64 n] (Go.World.drew w') fun (v : Go.Value)
 (w' : Go.World) => ∃ (x : Option Go.Addr), ∃ (x_45 : Nat), ∃ (x_46 : Nat), v = Go.Value.slice x x_45 x_46 ∧ S w' ∧ ∃ (S_1 : Go.World → Prop), S_1 w' ∧ ∃ (r_3 : ByteArray), (∀ (u : Go.World), S_1 u →
 Go.Sx.RunsTo Go.Proofs.Try.prog (Go.convert (30 : Nat) (9 : Nat) (Go.Value.slice x x_45 x_46)) u (Go.Value.string r_3) u) ∧ bif ByteArray.toList r == ByteArray.toList r_3 then ∃ (r : ByteArray), (∀ (u
 : Go.World), S_1 u → Go.Sx.RunsTo Go.Proofs.Try.prog (Go.convert (30 : Nat) (9 : Nat) (Go.Value.slice x_39 x_40 x_41)) u (Go.Value.string r) u) ∧ Go.Sx.CallsV Go.Proofs.Try.prog (24 : Nat)
 #[Go.Value.slice b_A b_n b_c, Go.Value.slice b_A b_n b_c] w' fun (v : Go.Value) (w' : Go.World) => ∃ (x : Option Go.Addr), ∃ (x_47 : Nat), ∃ (x_48 : Nat), v = Go.Value.slice x x_47 x_48 ∧ S_1 w' ∧ S w'
 ∧ ∃ (S_2 : Go.World → Prop), S_2 w' ∧ ∃ (r_4 : ByteArray), (∀ (u : Go.World), S_2 u → Go.Sx.RunsTo Go.Proofs.Try.prog (Go.convert (30 : Nat) (9 : Nat) (Go.Value.slice x x_47 x_48)) u (Go.Value.string
 r_4) u) ∧ bif ByteArray.toList r == ByteArray.toList r_4 then ∃ (r : ByteArray), (∀ (u : Go.World), S_2 u → Go.Sx.RunsTo Go.Proofs.Try.prog (Go.convert (30 : Nat) (9 : Nat) (Go.Value.slice x_42 x_43
 x_44)) u (Go.Value.string r) u) ∧ Go.Sx.CallsV Go.Proofs.Try.prog (25 : Nat) #[Go.Value.slice b_A b_n b_c, Go.Value.slice l_A l_n l_c] w' fun (v : Go.Value) (w' : Go.World) => ∃ (x : Option Go.Addr), ∃
 (x_49 : Nat), ∃ (x_50 : Nat), v = Go.Value.slice x x_49 x_50 ∧ S_2 w' ∧ S_1 w' ∧ S w' ∧ ∃ (S_3 : Go.World → Prop), S_3 w' ∧ ∃ (r_5 : ByteArray), (∀ (u : Go.World), S_3 u → Go.Sx.RunsTo
 Go.Proofs.Try.prog (Go.convert (30 : Nat) (9 : Nat) (Go.Value.slice x x_49 x_50)) u (Go.Value.string r_5) u) ∧ bif ByteArray.toList r == ByteArray.toList r_5 then ∃ (r : ByteArray), (∀ (u : Go.World),
 S_3 u → Go.Sx.RunsTo Go.Proofs.Try.prog (Go.convert (30 : Nat) (9 : Nat) (Go.Value.slice x_1 x_2 x_3)) u (Go.Value.string r) u) ∧ ∃ (r_6 : ByteArray), (∀ (u : Go.World), S_3 u → Go.Sx.RunsTo
 Go.Proofs.Try.prog (Go.convert (30 : Nat) (9 : Nat) (Go.Value.slice b_A b_n b_c)) u (Go.Value.string r_6) u) ∧ bif ByteArray.toList r == ByteArray.toList r_6 then Go.Sx.CallsV Go.Proofs.Try.prog (14 :
 Nat) #[] w' fun (v : Go.Value) (w' : Go.World) => ∃ (x : Bool), v = Go.Value.bool x ∧ S_3 w' ∧ S_2 w' ∧ S_1 w' ∧ S w' ∧ K (Go.Value.bool x) w' else K (Go.Value.bool Bool.false) w' else K (Go.Value.bool
 Bool.false) w' else K (Go.Value.bool Bool.false) w' else K (Go.Value.bool Bool.false) w') ∧ ∃ (x_31 : Option Go.Addr), ∃ (x_32 : Nat), ∃ (x_33 : Nat), ∃ (w' : Go.World), Go.Sx.RunsTo Go.Proofs.Try.prog
 (Go.convert (9 : Nat) (30 : Nat) (Go.Value.string r_2)) w'_4 (Go.Value.slice x_31 x_32 x_33) w' ∧ S w' ∧ (Go.Sx.CallsV Go.Proofs.Try.prog (20 : Nat) #[Go.Value.slice x x_29 x_30, Go.Value.int
 Go.IntKind.u64 n] w' fun (v : Go.Value) (w' : Go.World) => ∃ (x : Option Go.Addr), ∃ (x_34 : Nat), ∃ (x_35 : Nat), v = Go.Value.slice x x_34 x_35 ∧ S w' ∧ ∃ (x_36 : Option Go.Addr), ∃ (x_37 : Nat), ∃
 (x_38 : Nat), ∃ (w'_5 : Go.World), Go.Sx.RunsTo Go.Proofs.Try.prog (Go.convert (9 : Nat) (30 : Nat) (Go.Value.string r_1)) w' (Go.Value.slice x_36 x_37 x_38) w'_5 ∧ Go.Sx.CallsV Go.Proofs.Try.prog (21
 : Nat) #[Go.Value.slice x_36 x_37 x_38, Go.Value.slice x_1 x_2 x_3] w'_5 fun (v : Go.Value) (w' : Go.World) => ∃ (x_39 : Option Go.Addr), ∃ (x_40 : Nat), ∃ (x_41 : Nat), v = Go.Value.slice x_39 x_40
 x_41 ∧ Go.Sx.CallsV Go.Proofs.Try.prog (22 : Nat) #[Go.Value.slice x_31 x_32 x_33, Go.Value.slice l_A l_n l_c] w' fun (v : Go.Value) (w' : Go.World) => ∃ (x_42 : Option Go.Addr), ∃ (x_43 : Nat), ∃
 (x_44 : Nat), v = Go.Value.slice x_42 x_43 x_44 ∧ ∃ (S : Go.World → Prop), S (Go.World.drew w') ∧ ∃ (r : ByteArray), (∀ (u : Go.World), S u → Go.Sx.RunsTo Go.Proofs.Try.prog (Go.convert (30 : Nat) (9 :
 Nat) (Go.Value.slice x x_34 x_35)) u (Go.Value.string r) u) ∧ Go.Sx.CallsV Go.Proofs.Try.prog (23 : Nat) #[Go.Value.slice b_A b_n b_c, Go.Value.int Go.IntKind.u64 n] (Go.World.drew w') fun (v :
 Go.Value) (w' : Go.World) => ∃ (x : Option Go.Addr), ∃ (x_45 : Nat), ∃ (x_46 : Nat), v = Go.Value.slice x x_45 x_46 ∧ S w' ∧ ∃ (S_1 : Go.World → Prop), S_1 w' ∧ ∃ (r_3 : ByteArray), (∀ (u : Go.World),
 S_1 u → Go.Sx.RunsTo Go.Proofs.Try.prog (Go.convert (30 : Nat) (9 : Nat) (Go.Value.slice x x_45 x_46)) u (Go.Value.string r_3) u) ∧ bif ByteArray.toList r == ByteArray.toList r_3 then ∃ (r :
 ByteArray), (∀ (u : Go.World), S_1 u → Go.Sx.RunsTo Go.Proofs.Try.prog (Go.convert (30 : Nat) (9 : Nat) (Go.Value.slice x_39 x_40 x_41)) u (Go.Value.string r) u) ∧ Go.Sx.CallsV Go.Proofs.Try.prog (24 :
 Nat) #[Go.Value.slice b_A b_n b_c, Go.Value.slice b_A b_n b_c] w' fun (v : Go.Value) (w' : Go.World) => ∃ (x : Option Go.Addr), ∃ (x_47 : Nat), ∃ (x_48 : Nat), v = Go.Value.slice x x_47 x_48 ∧ S_1 w' ∧
 S w' ∧ ∃ (S_2 : Go.World → Prop), S_2 w' ∧ ∃ (r_4 : ByteArray), (∀ (u : Go.World), S_2 u → Go.Sx.RunsTo Go.Proofs.Try.prog (Go.convert (30 : Nat) (9 : Nat) (Go.Value.slice x x_47 x_48)) u
 (Go.Value.string r_4) u) ∧ bif ByteArray.toList r == ByteArray.toList r_4 then ∃ (r : ByteArray), (∀ (u : Go.World), S_2 u → Go.Sx.RunsTo Go.Proofs.Try.prog (Go.convert (30 : Nat) (9 : Nat)
 (Go.Value.slice x_42 x_43 x_44)) u (Go.Value.string r) u) ∧ Go.Sx.CallsV Go.Proofs.Try.prog (25 : Nat) #[Go.Value.slice b_A b_n b_c, Go.Value.slice l_A l_n l_c] w' fun (v : Go.Value) (w' : Go.World) =>
 ∃ (x : Option Go.Addr), ∃ (x_49 : Nat), ∃ (x_50 : Nat), v = Go.Value.slice x x_49 x_50 ∧ S_2 w' ∧ S_1 w' ∧ S w' ∧ ∃ (S_3 : Go.World → Prop), S_3 w' ∧ ∃ (r_5 : ByteArray), (∀ (u : Go.World), S_3 u →
 Go.Sx.RunsTo Go.Proofs.Try.prog (Go.convert (30 : Nat) (9 : Nat) (Go.Value.slice x x_49 x_50)) u (Go.Value.string r_5) u) ∧ bif ByteArray.toList r == ByteArray.toList r_5 then ∃ (r : ByteArray), (∀ (u
 : Go.World), S_3 u → Go.Sx.RunsTo Go.Proofs.Try.prog (Go.convert (30 : Nat) (9 : Nat) (Go.Value.slice x_1 x_2 x_3)) u (Go.Value.string r) u) ∧ ∃ (r_6 : ByteArray), (∀ (u : Go.World), S_3 u →
 Go.Sx.RunsTo Go.Proofs.Try.prog (Go.convert (30 : Nat) (9 : Nat) (Go.Value.slice b_A b_n b_c)) u (Go.Value.string r_6) u) ∧ bif ByteArray.toList r == ByteArray.toList r_6 then Go.Sx.CallsV
 Go.Proofs.Try.prog (14 : Nat) #[] w' fun (v : Go.Value) (w' : Go.World) => ∃ (x : Bool), v = Go.Value.bool x ∧ S_3 w' ∧ S_2 w' ∧ S_1 w' ∧ S w' ∧ K (Go.Value.bool x) w' else K (Go.Value.bool Bool.false)
 w' else K (Go.Value.bool Bool.false) w' else K (Go.Value.bool Bool.false) w' else K (Go.Value.bool Bool.false) w') ∧ ∃ (x_34 : Option Go.Addr), ∃ (x_35 : Nat), ∃ (x_36 : Nat), ∃ (w'_5 : Go.World),
 Go.Sx.RunsTo Go.Proofs.Try.prog (Go.convert (9 : Nat) (30 : Nat) (Go.Value.string r_1)) w' (Go.Value.slice x_34 x_35 x_36) w'_5 ∧ Go.Sx.CallsV Go.Proofs.Try.prog (20 : Nat) #[Go.Value.slice x x_29
 x_30, Go.Value.int Go.IntKind.u64 n] w'_5 fun (v : Go.Value) (w' : Go.World) => ∃ (x : Option Go.Addr), ∃ (x_37 : Nat), ∃ (x_38 : Nat), v = Go.Value.slice x x_37 x_38 ∧ Go.Sx.CallsV Go.Proofs.Try.prog
 (21 : Nat) #[Go.Value.slice x_34 x_35 x_36, Go.Value.slice x_1 x_2 x_3] w' fun (v : Go.Value) (w' : Go.World) => ∃ (x_39 : Option Go.Addr), ∃ (x_40 : Nat), ∃ (x_41 : Nat), v = Go.Value.slice x_39 x_40
 x_41 ∧ Go.Sx.CallsV Go.Proofs.Try.prog (22 : Nat) #[Go.Value.slice x_31 x_32 x_33, Go.Value.slice l_A l_n l_c] w' fun (v : Go.Value) (w' : Go.World) => ∃ (x_42 : Option Go.Addr), ∃ (x_43 : Nat), ∃
 (x_44 : Nat), v = Go.Value.slice x_42 x_43 x_44 ∧ ∃ (S : Go.World → Prop), S (Go.World.drew w') ∧ ∃ (r : ByteArray), (∀ (u : Go.World), S u → Go.Sx.RunsTo Go.Proofs.Try.prog (Go.convert (30 : Nat) (9 :
 Nat) (Go.Value.slice x x_37 x_38)) u (Go.Value.string r) u) ∧ Go.Sx.CallsV Go.Proofs.Try.prog (23 : Nat) #[Go.Value.slice b_A b_n b_c, Go.Value.int Go.IntKind.u64 n] (Go.World.drew w') fun (v :
 Go.Value) (w' : Go.World) => ∃ (x : Option Go.Addr), ∃ (x_45 : Nat), ∃ (x_46 : Nat), v = Go.Value.slice x x_45 x_46 ∧ S w' ∧ ∃ (S_1 : Go.World → Prop), S_1 w' ∧ ∃ (r_3 : ByteArray), (∀ (u : Go.World),
 S_1 u → Go.Sx.RunsTo Go.Proofs.Try.prog (Go.convert (30 : Nat) (9 : Nat) (Go.Value.slice x x_45 x_46)) u (Go.Value.string r_3) u) ∧ bif ByteArray.toList r == ByteArray.toList r_3 then ∃ (r :
 ByteArray), (∀ (u : Go.World), S_1 u → Go.Sx.RunsTo Go.Proofs.Try.prog (Go.convert (30 : Nat) (9 : Nat) (Go.Value.slice x_39 x_40 x_41)) u (Go.Value.string r) u) ∧ Go.Sx.CallsV Go.Proofs.Try.prog (24 :
 Nat) #[Go.Value.slice b_A b_n b_c, Go.Value.slice b_A b_n b_c] w' fun (v : Go.Value) (w' : Go.World) => ∃ (x : Option Go.Addr), ∃ (x_47 : Nat), ∃ (x_48 : Nat), v = Go.Value.slice x x_47 x_48 ∧ S_1 w' ∧
 S w' ∧ ∃ (S_2 : Go.World → Prop), S_2 w' ∧ ∃ (r_4 : ByteArray), (∀ (u : Go.World), S_2 u → Go.Sx.RunsTo Go.Proofs.Try.prog (Go.convert (30 : Nat) (9 : Nat) (Go.Value.slice x x_47 x_48)) u
 (Go.Value.string r_4) u) ∧ bif ByteArray.toList r == ByteArray.toList r_4 then ∃ (r : ByteArray), (∀ (u : Go.World), S_2 u → Go.Sx.RunsTo Go.Proofs.Try.prog (Go.convert (30 : Nat) (9 : Nat)
 (Go.Value.slice x_42 x_43 x_44)) u (Go.Value.string r) u) ∧ Go.Sx.CallsV Go.Proofs.Try.prog (25 : Nat) #[Go.Value.slice b_A b_n b_c, Go.Value.slice l_A l_n l_c] w' fun (v : Go.Value) (w' : Go.World) =>
 ∃ (x : Option Go.Addr), ∃ (x_49 : Nat), ∃ (x_50 : Nat), v = Go.Value.slice x x_49 x_50 ∧ S_2 w' ∧ S_1 w' ∧ S w' ∧ ∃ (S_3 : Go.World → Prop), S_3 w' ∧ ∃ (r_5 : ByteArray), (∀ (u : Go.World), S_3 u →
 Go.Sx.RunsTo Go.Proofs.Try.prog (Go.convert (30 : Nat) (9 : Nat) (Go.Value.slice x x_49 x_50)) u (Go.Value.string r_5) u) ∧ bif ByteArray.toList r == ByteArray.toList r_5 then ∃ (r : ByteArray), (∀ (u
 : Go.World), S_3 u → Go.Sx.RunsTo Go.Proofs.Try.prog (Go.convert (30 : Nat) (9 : Nat) (Go.Value.slice x_1 x_2 x_3)) u (Go.Value.string r) u) ∧ ∃ (r_6 : ByteArray), (∀ (u : Go.World), S_3 u →
 Go.Sx.RunsTo Go.Proofs.Try.prog (Go.convert (30 : Nat) (9 : Nat) (Go.Value.slice b_A b_n b_c)) u (Go.Value.string r_6) u) ∧ bif ByteArray.toList r == ByteArray.toList r_6 then Go.Sx.CallsV
 Go.Proofs.Try.prog (14 : Nat) #[] w' fun (v : Go.Value) (w' : Go.World) => ∃ (x : Bool), v = Go.Value.bool x ∧ S_3 w' ∧ S_2 w' ∧ S_1 w' ∧ S w' ∧ K (Go.Value.bool x) w' else K (Go.Value.bool Bool.false)
 w' else K (Go.Value.bool Bool.false) w' else K (Go.Value.bool Bool.false) w' else K (Go.Value.bool Bool.false) w') ∧ (∃ (x : Option Go.Addr), ∃ (x_29 : Nat), ∃ (x_30 : Nat), ∃ (w'_4 : Go.World),
 Go.Sx.RunsTo Go.Proofs.Try.prog (Go.convert (9 : Nat) (30 : Nat) (Go.Value.string r_1)) (Go.World.drew w') (Go.Value.slice x x_29 x_30) w'_4 ∧ S w'_4 ∧ (∃ (x_31 : Option Go.Addr), ∃ (x_32 : Nat), ∃
 (x_33 : Nat), ∃ (w' : Go.World), Go.Sx.RunsTo Go.Proofs.Try.prog (Go.convert (9 : Nat) (30 : Nat) (Go.Value.string r)) w'_4 (Go.Value.slice x_31 x_32 x_33) w' ∧ S w' ∧ (Go.Sx.CallsV Go.Proofs.Try.prog
 (20 : Nat) #[Go.Value.slice x_31 x_32 x_33, Go.Value.int Go.IntKind.u64 n] w' fun (v : Go.Value) (w' : Go.World) => ∃ (x_34 : Option Go.Addr), ∃ (x_35 : Nat), ∃ (x_36 : Nat), v = Go.Value.slice x_34
 x_35 x_36 ∧ S w' ∧ (Go.Sx.CallsV Go.Proofs.Try.prog (21 : Nat) #[Go.Value.slice x x_29 x_30, Go.Value.slice x_1 x_2 x_3] w' fun (v : Go.Value) (w' : Go.World) => ∃ (x : Option Go.Addr), ∃ (x_37 : Nat),
 ∃ (x_38 : Nat), v = Go.Value.slice x x_37 x_38 ∧ S w' ∧ ∃ (x_39 : Option Go.Addr), ∃ (x_40 : Nat), ∃ (x_41 : Nat), ∃ (w'_5 : Go.World), Go.Sx.RunsTo Go.Proofs.Try.prog (Go.convert (9 : Nat) (30 : Nat)
 (Go.Value.string r_2)) w' (Go.Value.slice x_39 x_40 x_41) w'_5 ∧ Go.Sx.CallsV Go.Proofs.Try.prog (22 : Nat) #[Go.Value.slice x_39 x_40 x_41, Go.Value.slice l_A l_n l_c] w'_5 fun (v : Go.Value) (w' :
 Go.World) => ∃ (x_42 : Option Go.Addr), ∃ (x_43 : Nat), ∃ (x_44 : Nat), v = Go.Value.slice x_42 x_43 x_44 ∧ ∃ (S : Go.World → Prop), S (Go.World.drew w') ∧ ∃ (r : ByteArray), (∀ (u : Go.World), S u →
 Go.Sx.RunsTo Go.Proofs.Try.prog (Go.convert (30 : Nat) (9 : Nat) (Go.Value.slice x_34 x_35 x_36)) u (Go.Value.string r) u) ∧ Go.Sx.CallsV Go.Proofs.Try.prog (23 : Nat) #[Go.Value.slice b_A b_n b_c,
 Go.Value.int Go.IntKind.u64 n] (Go.World.drew w') fun (v : Go.Value) (w' : Go.World) => ∃ (x_45 : Option Go.Addr), ∃ (x_46 : Nat), ∃ (x_47 : Nat), v = Go.Value.slice x_45 x_46 x_47 ∧ S w' ∧ ∃ (S_1 :
 Go.World → Prop), S_1 w' ∧ ∃ (r_3 : ByteArray), (∀ (u : Go.World), S_1 u → Go.Sx.RunsTo Go.Proofs.Try.prog (Go.convert (30 : Nat) (9 : Nat) (Go.Value.slice x_45 x_46 x_47)) u (Go.Value.string r_3) u) ∧
 bif ByteArray.toList r == ByteArray.toList r_3 then ∃ (r : ByteArray), (∀ (u : Go.World), S_1 u → Go.Sx.RunsTo Go.Proofs.Try.prog (Go.convert (30 : Nat) (9 : Nat) (Go.Value.slice x x_37 x_38)) u
 (Go.Value.string r) u) ∧ Go.Sx.CallsV Go.Proofs.Try.prog (24 : Nat) #[Go.Value.slice b_A b_n b_c, Go.Value.slice b_A b_n b_c] w' fun (v : Go.Value) (w' : Go.World) => ∃ (x : Option Go.Addr), ∃ (x_48 :
 Nat), ∃ (x_49 : Nat), v = Go.Value.slice x x_48 x_49 ∧ S_1 w' ∧ S w' ∧ ∃ (S_2 : Go.World → Prop), S_2 w' ∧ ∃ (r_4 : ByteArray), (∀ (u : Go.World), S_2 u → Go.Sx.RunsTo Go.Proofs.Try.prog (Go.convert
 (30 : Nat) (9 : Nat) (Go.Value.slice x x_48 x_49)) u (Go.Value.string r_4) u) ∧ bif ByteArray.toList r == ByteArray.toList r_4 then ∃ (r : ByteArray), (∀ (u : Go.World), S_2 u → Go.Sx.RunsTo
 Go.Proofs.Try.prog (Go.convert (30 : Nat) (9 : Nat) (Go.Value.slice x_42 x_43 x_44)) u (Go.Value.string r) u) ∧ Go.Sx.CallsV Go.Proofs.Try.prog (25 : Nat) #[Go.Value.slice b_A b_n b_c, Go.Value.slice
 l_A l_n l_c] w' fun (v : Go.Value) (w' : Go.World) => ∃ (x : Option Go.Addr), ∃ (x_50 : Nat), ∃ (x_51 : Nat), v = Go.Value.slice x x_50 x_51 ∧ S_2 w' ∧ S_1 w' ∧ S w' ∧ ∃ (S_3 : Go.World → Prop), S_3 w'
 ∧ ∃ (r_5 : ByteArray), (∀ (u : Go.World), S_3 u → Go.Sx.RunsTo Go.Proofs.Try.prog (Go.convert (30 : Nat) (9 : Nat) (Go.Value.slice x x_50 x_51)) u (Go.Value.string r_5) u) ∧ bif ByteArray.toList r ==
 ByteArray.toList r_5 then ∃ (r : ByteArray), (∀ (u : Go.World), S_3 u → Go.Sx.RunsTo Go.Proofs.Try.prog (Go.convert (30 : Nat) (9 : Nat) (Go.Value.slice x_1 x_2 x_3)) u (Go.Value.string r) u) ∧ ∃ (r_6
 : ByteArray), (∀ (u : Go.World), S_3 u → Go.Sx.RunsTo Go.Proofs.Try.prog (Go.convert (30 : Nat) (9 : Nat) (Go.Value.slice b_A b_n b_c)) u (Go.Value.string r_6) u) ∧ bif ByteArray.toList r ==
 ByteArray.toList r_6 then Go.Sx.CallsV Go.Proofs.Try.prog (14 : Nat) #[] w' fun (v : Go.Value) (w' : Go.World) => ∃ (x : Bool), v = Go.Value.bool x ∧ S_3 w' ∧ S_2 w' ∧ S_1 w' ∧ S w' ∧ K (Go.Value.bool
 x) w' else K (Go.Value.bool Bool.false) w' else K (Go.Value.bool Bool.false) w' else K (Go.Value.bool Bool.false) w' else K (Go.Value.bool Bool.false) w') ∧ ∃ (x_37 : Option Go.Addr), ∃ (x_38 : Nat), ∃
 (x_39 : Nat), ∃ (w'_5 : Go.World), Go.Sx.RunsTo Go.Proofs.Try.prog (Go.convert (9 : Nat) (30 : Nat) (Go.Value.string r_2)) w' (Go.Value.slice x_37 x_38 x_39) w'_5 ∧ Go.Sx.CallsV Go.Proofs.Try.prog (21
 : Nat) #[Go.Value.slice x x_29 x_30, Go.Value.slice x_1 x_2 x_3] w'_5 fun (v : Go.Value) (w' : Go.World) => ∃ (x : Option Go.Addr), ∃ (x_40 : Nat), ∃ (x_41 : Nat), v = Go.Value.slice x x_40 x_41 ∧
 Go.Sx.CallsV Go.Proofs.Try.prog (22 : Nat) #[Go.Value.slice x_37 x_38 x_39, Go.Value.slice l_A l_n l_c] w' fun (v : Go.Value) (w' : Go.World) => ∃ (x_42 : Option Go.Addr), ∃ (x_43 : Nat), ∃ (x_44 :
 Nat), v = Go.Value.slice x_42 x_43 x_44 ∧ ∃ (S : Go.World → Prop), S (Go.World.drew w') ∧ ∃ (r : ByteArray), (∀ (u : Go.World), S u → Go.Sx.RunsTo Go.Proofs.Try.prog (Go.convert (30 : Nat) (9 : Nat)
 (Go.Value.slice x_34 x_35 x_36)) u (Go.Value.string r) u) ∧ Go.Sx.CallsV Go.Proofs.Try.prog (23 : Nat) #[Go.Value.slice b_A b_n b_c, Go.Value.int Go.IntKind.u64 n] (Go.World.drew w') fun (v : Go.Value)
 (w' : Go.World) => ∃ (x_45 : Option Go.Addr), ∃ (x_46 : Nat), ∃ (x_47 : Nat), v = Go.Value.slice x_45 x_46 x_47 ∧ S w' ∧ ∃ (S_1 : Go.World → Prop), S_1 w' ∧ ∃ (r_3 : ByteArray), (∀ (u : Go.World), S_1
 u → Go.Sx.RunsTo Go.Proofs.Try.prog (Go.convert (30 : Nat) (9 : Nat) (Go.Value.slice x_45 x_46 x_47)) u (Go.Value.string r_3) u) ∧ bif ByteArray.toList r == ByteArray.toList r_3 then ∃ (r : ByteArray),
 (∀ (u : Go.World), S_1 u → Go.Sx.RunsTo Go.Proofs.Try.prog (Go.convert (30 : Nat) (9 : Nat) (Go.Value.slice x x_40 x_41)) u (Go.Value.string r) u) ∧ Go.Sx.CallsV Go.Proofs.Try.prog (24 : Nat)
 #[Go.Value.slice b_A b_n b_c, Go.Value.slice b_A b_n b_c] w' fun (v : Go.Value) (w' : Go.World) => ∃ (x : Option Go.Addr), ∃ (x_48 : Nat), ∃ (x_49 : Nat), v = Go.Value.slice x x_48 x_49 ∧ S_1 w' ∧ S w'
 ∧ ∃ (S_2 : Go.World → Prop), S_2 w' ∧ ∃ (r_4 : ByteArray), (∀ (u : Go.World), S_2 u → Go.Sx.RunsTo Go.Proofs.Try.prog (Go.convert (30 : Nat) (9 : Nat) (Go.Value.slice x x_48 x_49)) u (Go.Value.string
 r_4) u) ∧ bif ByteArray.toList r == ByteArray.toList r_4 then ∃ (r : ByteArray), (∀ (u : Go.World), S_2 u → Go.Sx.RunsTo Go.Proofs.Try.prog (Go.convert (30 : Nat) (9 : Nat) (Go.Value.slice x_42 x_43
 x_44)) u (Go.Value.string r) u) ∧ Go.Sx.CallsV Go.Proofs.Try.prog (25 : Nat) #[Go.Value.slice b_A b_n b_c, Go.Value.slice l_A l_n l_c] w' fun (v : Go.Value) (w' : Go.World) => ∃ (x : Option Go.Addr), ∃
 (x_50 : Nat), ∃ (x_51 : Nat), v = Go.Value.slice x x_50 x_51 ∧ S_2 w' ∧ S_1 w' ∧ S w' ∧ ∃ (S_3 : Go.World → Prop), S_3 w' ∧ ∃ (r_5 : ByteArray), (∀ (u : Go.World), S_3 u → Go.Sx.RunsTo
 Go.Proofs.Try.prog (Go.convert (30 : Nat) (9 : Nat) (Go.Value.slice x x_50 x_51)) u (Go.Value.string r_5) u) ∧ bif ByteArray.toList r == ByteArray.toList r_5 then ∃ (r : ByteArray), (∀ (u : Go.World),
 S_3 u → Go.Sx.RunsTo Go.Proofs.Try.prog (Go.convert (30 : Nat) (9 : Nat) (Go.Value.slice x_1 x_2 x_3)) u (Go.Value.string r) u) ∧ ∃ (r_6 : ByteArray), (∀ (u : Go.World), S_3 u → Go.Sx.RunsTo
 Go.Proofs.Try.prog (Go.convert (30 : Nat) (9 : Nat) (Go.Value.slice b_A b_n b_c)) u (Go.Value.string r_6) u) ∧ bif ByteArray.toList r == ByteArray.toList r_6 then Go.Sx.CallsV Go.Proofs.Try.prog (14 :
 Nat) #[] w' fun (v : Go.Value) (w' : Go.World) => ∃ (x : Bool), v = Go.Value.bool x ∧ S_3 w' ∧ S_2 w' ∧ S_1 w' ∧ S w' ∧ K (Go.Value.bool x) w' else K (Go.Value.bool Bool.false) w' else K (Go.Value.bool
 Bool.false) w' else K (Go.Value.bool Bool.false) w' else K (Go.Value.bool Bool.false) w') ∧ ∃ (x_34 : Option Go.Addr), ∃ (x_35 : Nat), ∃ (x_36 : Nat), ∃ (w'_5 : Go.World), Go.Sx.RunsTo
 Go.Proofs.Try.prog (Go.convert (9 : Nat) (30 : Nat) (Go.Value.string r_2)) w' (Go.Value.slice x_34 x_35 x_36) w'_5 ∧ Go.Sx.CallsV Go.Proofs.Try.prog (20 : Nat) #[Go.Value.slice x_31 x_32 x_33,
 Go.Value.int Go.IntKind.u64 n] w'_5 fun (v : Go.Value) (w' : Go.World) => ∃ (x_37 : Option Go.Addr), ∃ (x_38 : Nat), ∃ (x_39 : Nat), v = Go.Value.slice x_37 x_38 x_39 ∧ Go.Sx.CallsV Go.Proofs.Try.prog
 (21 : Nat) #[Go.Value.slice x x_29 x_30, Go.Value.slice x_1 x_2 x_3] w' fun (v : Go.Value) (w' : Go.World) => ∃ (x : Option Go.Addr), ∃ (x_40 : Nat), ∃ (x_41 : Nat), v = Go.Value.slice x x_40 x_41 ∧
 Go.Sx.CallsV Go.Proofs.Try.prog (22 : Nat) #[Go.Value.slice x_34 x_35 x_36, Go.Value.slice l_A l_n l_c] w' fun (v : Go.Value) (w' : Go.World) => ∃ (x_42 : Option Go.Addr), ∃ (x_43 : Nat), ∃ (x_44 :
 Nat), v = Go.Value.slice x_42 x_43 x_44 ∧ ∃ (S : Go.World → Prop), S (Go.World.drew w') ∧ ∃ (r : ByteArray), (∀ (u : Go.World), S u → Go.Sx.RunsTo Go.Proofs.Try.prog (Go.convert (30 : Nat) (9 : Nat)
 (Go.Value.slice x_37 x_38 x_39)) u (Go.Value.string r) u) ∧ Go.Sx.CallsV Go.Proofs.Try.prog (23 : Nat) #[Go.Value.slice b_A b_n b_c, Go.Value.int Go.IntKind.u64 n] (Go.World.drew w') fun (v : Go.Value)
 (w' : Go.World) => ∃ (x_45 : Option Go.Addr), ∃ (x_46 : Nat), ∃ (x_47 : Nat), v = Go.Value.slice x_45 x_46 x_47 ∧ S w' ∧ ∃ (S_1 : Go.World → Prop), S_1 w' ∧ ∃ (r_3 : ByteArray), (∀ (u : Go.World), S_1
 u → Go.Sx.RunsTo Go.Proofs.Try.prog (Go.convert (30 : Nat) (9 : Nat) (Go.Value.slice x_45 x_46 x_47)) u (Go.Value.string r_3) u) ∧ bif ByteArray.toList r == ByteArray.toList r_3 then ∃ (r : ByteArray),
 (∀ (u : Go.World), S_1 u → Go.Sx.RunsTo Go.Proofs.Try.prog (Go.convert (30 : Nat) (9 : Nat) (Go.Value.slice x x_40 x_41)) u (Go.Value.string r) u) ∧ Go.Sx.CallsV Go.Proofs.Try.prog (24 : Nat)
 #[Go.Value.slice b_A b_n b_c, Go.Value.slice b_A b_n b_c] w' fun (v : Go.Value) (w' : Go.World) => ∃ (x : Option Go.Addr), ∃ (x_48 : Nat), ∃ (x_49 : Nat), v = Go.Value.slice x x_48 x_49 ∧ S_1 w' ∧ S w'
 ∧ ∃ (S_2 : Go.World → Prop), S_2 w' ∧ ∃ (r_4 : ByteArray), (∀ (u : Go.World), S_2 u → Go.Sx.RunsTo Go.Proofs.Try.prog (Go.convert (30 : Nat) (9 : Nat) (Go.Value.slice x x_48 x_49)) u (Go.Value.string
 r_4) u) ∧ bif ByteArray.toList r == ByteArray.toList r_4 then ∃ (r : ByteArray), (∀ (u : Go.World), S_2 u → Go.Sx.RunsTo Go.Proofs.Try.prog (Go.convert (30 : Nat) (9 : Nat) (Go.Value.slice x_42 x_43
 x_44)) u (Go.Value.string r) u) ∧ Go.Sx.CallsV Go.Proofs.Try.prog (25 : Nat) #[Go.Value.slice b_A b_n b_c, Go.Value.slice l_A l_n l_c] w' fun (v : Go.Value) (w' : Go.World) => ∃ (x : Option Go.Addr), ∃
 (x_50 : Nat), ∃ (x_51 : Nat), v = Go.Value.slice x x_50 x_51 ∧ S_2 w' ∧ S_1 w' ∧ S w' ∧ ∃ (S_3 : Go.World → Prop), S_3 w' ∧ ∃ (r_5 : ByteArray), (∀ (u : Go.World), S_3 u → Go.Sx.RunsTo
 Go.Proofs.Try.prog (Go.convert (30 : Nat) (9 : Nat) (Go.Value.slice x x_50 x_51)) u (Go.Value.string r_5) u) ∧ bif ByteArray.toList r == ByteArray.toList r_5 then ∃ (r : ByteArray), (∀ (u : Go.World),
 S_3 u → Go.Sx.RunsTo Go.Proofs.Try.prog (Go.convert (30 : Nat) (9 : Nat) (Go.Value.slice x_1 x_2 x_3)) u (Go.Value.string r) u) ∧ ∃ (r_6 : ByteArray), (∀ (u : Go.World), S_3 u → Go.Sx.RunsTo
 Go.Proofs.Try.prog (Go.convert (30 : Nat) (9 : Nat) (Go.Value.slice b_A b_n b_c)) u (Go.Value.string r_6) u) ∧ bif ByteArray.toList r == ByteArray.toList r_6 then Go.Sx.CallsV Go.Proofs.Try.prog (14 :
 Nat) #[] w' fun (v : Go.Value) (w' : Go.World) => ∃ (x : Bool), v = Go.Value.bool x ∧ S_3 w' ∧ S_2 w' ∧ S_1 w' ∧ S w' ∧ K (Go.Value.bool x) w' else K (Go.Value.bool Bool.false) w' else K (Go.Value.bool
 Bool.false) w' else K (Go.Value.bool Bool.false) w' else K (Go.Value.bool Bool.false) w') ∧ ∃ (x_31 : Option Go.Addr), ∃ (x_32 : Nat), ∃ (x_33 : Nat), ∃ (w' : Go.World), Go.Sx.RunsTo Go.Proofs.Try.prog
 (Go.convert (9 : Nat) (30 : Nat) (Go.Value.string r_2)) w'_4 (Go.Value.slice x_31 x_32 x_33) w' ∧ S w' ∧ ∃ (x_34 : Option Go.Addr), ∃ (x_35 : Nat), ∃ (x_36 : Nat), ∃ (w'_5 : Go.World), Go.Sx.RunsTo
 Go.Proofs.Try.prog (Go.convert (9 : Nat) (30 : Nat) (Go.Value.string r)) w' (Go.Value.slice x_34 x_35 x_36) w'_5 ∧ Go.Sx.CallsV Go.Proofs.Try.prog (20 : Nat) #[Go.Value.slice x_34 x_35 x_36,
 Go.Value.int Go.IntKind.u64 n] w'_5 fun (v : Go.Value) (w' : Go.World) => ∃ (x_37 : Option Go.Addr), ∃ (x_38 : Nat), ∃ (x_39 : Nat), v = Go.Value.slice x_37 x_38 x_39 ∧ Go.Sx.CallsV Go.Proofs.Try.prog
 (21 : Nat) #[Go.Value.slice x x_29 x_30, Go.Value.slice x_1 x_2 x_3] w' fun (v : Go.Value) (w' : Go.World) => ∃ (x : Option Go.Addr), ∃ (x_40 : Nat), ∃ (x_41 : Nat), v = Go.Value.slice x x_40 x_41 ∧
 Go.Sx.CallsV Go.Proofs.Try.prog (22 : Nat) #[Go.Value.slice x_31 x_32 x_33, Go.Value.slice l_A l_n l_c] w' fun (v : Go.Value) (w' : Go.World) => ∃ (x_42 : Option Go.Addr), ∃ (x_43 : Nat), ∃ (x_44 :
 Nat), v = Go.Value.slice x_42 x_43 x_44 ∧ ∃ (S : Go.World → Prop), S (Go.World.drew w') ∧ ∃ (r : ByteArray), (∀ (u : Go.World), S u → Go.Sx.RunsTo Go.Proofs.Try.prog (Go.convert (30 : Nat) (9 : Nat)
 (Go.Value.slice x_37 x_38 x_39)) u (Go.Value.string r) u) ∧ Go.Sx.CallsV Go.Proofs.Try.prog (23 : Nat) #[Go.Value.slice b_A b_n b_c, Go.Value.int Go.IntKind.u64 n] (Go.World.drew w') fun (v : Go.Value)
 (w' : Go.World) => ∃ (x_45 : Option Go.Addr), ∃ (x_46 : Nat), ∃ (x_47 : Nat), v = Go.Value.slice x_45 x_46 x_47 ∧ S w' ∧ ∃ (S_1 : Go.World → Prop), S_1 w' ∧ ∃ (r_3 : ByteArray), (∀ (u : Go.World), S_1
 u → Go.Sx.RunsTo Go.Proofs.Try.prog (Go.convert (30 : Nat) (9 : Nat) (Go.Value.slice x_45 x_46 x_47)) u (Go.Value.string r_3) u) ∧ bif ByteArray.toList r == ByteArray.toList r_3 then ∃ (r : ByteArray),
 (∀ (u : Go.World), S_1 u → Go.Sx.RunsTo Go.Proofs.Try.prog (Go.convert (30 : Nat) (9 : Nat) (Go.Value.slice x x_40 x_41)) u (Go.Value.string r) u) ∧ Go.Sx.CallsV Go.Proofs.Try.prog (24 : Nat)
 #[Go.Value.slice b_A b_n b_c, Go.Value.slice b_A b_n b_c] w' fun (v : Go.Value) (w' : Go.World) => ∃ (x : Option Go.Addr), ∃ (x_48 : Nat), ∃ (x_49 : Nat), v = Go.Value.slice x x_48 x_49 ∧ S_1 w' ∧ S w'
 ∧ ∃ (S_2 : Go.World → Prop), S_2 w' ∧ ∃ (r_4 : ByteArray), (∀ (u : Go.World), S_2 u → Go.Sx.RunsTo Go.Proofs.Try.prog (Go.convert (30 : Nat) (9 : Nat) (Go.Value.slice x x_48 x_49)) u (Go.Value.string
 r_4) u) ∧ bif ByteArray.toList r == ByteArray.toList r_4 then ∃ (r : ByteArray), (∀ (u : Go.World), S_2 u → Go.Sx.RunsTo Go.Proofs.Try.prog (Go.convert (30 : Nat) (9 : Nat) (Go.Value.slice x_42 x_43
 x_44)) u (Go.Value.string r) u) ∧ Go.Sx.CallsV Go.Proofs.Try.prog (25 : Nat) #[Go.Value.slice b_A b_n b_c, Go.Value.slice l_A l_n l_c] w' fun (v : Go.Value) (w' : Go.World) => ∃ (x : Option Go.Addr), ∃
 (x_50 : Nat), ∃ (x_51 : Nat), v = Go.Value.slice x x_50 x_51 ∧ S_2 w' ∧ S_1 w' ∧ S w' ∧ ∃ (S_3 : Go.World → Prop), S_3 w' ∧ ∃ (r_5 : ByteArray), (∀ (u : Go.World), S_3 u → Go.Sx.RunsTo
 Go.Proofs.Try.prog (Go.convert (30 : Nat) (9 : Nat) (Go.Value.slice x x_50 x_51)) u (Go.Value.string r_5) u) ∧ bif ByteArray.toList r == ByteArray.toList r_5 then ∃ (r : ByteArray), (∀ (u : Go.World),
 S_3 u → Go.Sx.RunsTo Go.Proofs.Try.prog (Go.convert (30 : Nat) (9 : Nat) (Go.Value.slice x_1 x_2 x_3)) u (Go.Value.string r) u) ∧ ∃ (r_6 : ByteArray), (∀ (u : Go.World), S_3 u → Go.Sx.RunsTo
 Go.Proofs.Try.prog (Go.convert (30 : Nat) (9 : Nat) (Go.Value.slice b_A b_n b_c)) u (Go.Value.string r_6) u) ∧ bif ByteArray.toList r == ByteArray.toList r_6 then Go.Sx.CallsV Go.Proofs.Try.prog (14 :
 Nat) #[] w' fun (v : Go.Value) (w' : Go.World) => ∃ (x : Bool), v = Go.Value.bool x ∧ S_3 w' ∧ S_2 w' ∧ S_1 w' ∧ S w' ∧ K (Go.Value.bool x) w' else K (Go.Value.bool Bool.false) w' else K (Go.Value.bool
 Bool.false) w' else K (Go.Value.bool Bool.false) w' else K (Go.Value.bool Bool.false) w') ∧ ∃ (x : Option Go.Addr), ∃ (x_29 : Nat), ∃ (x_30 : Nat), ∃ (w'_4 : Go.World), Go.Sx.RunsTo Go.Proofs.Try.prog
 (Go.convert (9 : Nat) (30 : Nat) (Go.Value.string r_2)) (Go.World.drew w') (Go.Value.slice x x_29 x_30) w'_4 ∧ S w'_4 ∧ (∃ (x_31 : Option Go.Addr), ∃ (x_32 : Nat), ∃ (x_33 : Nat), ∃ (w' : Go.World),
 Go.Sx.RunsTo Go.Proofs.Try.prog (Go.convert (9 : Nat) (30 : Nat) (Go.Value.string r)) w'_4 (Go.Value.slice x_31 x_32 x_33) w' ∧ S w' ∧ (Go.Sx.CallsV Go.Proofs.Try.prog (20 : Nat) #[Go.Value.slice x_31
 x_32 x_33, Go.Value.int Go.IntKind.u64 n] w' fun (v : Go.Value) (w' : Go.World) => ∃ (x_34 : Option Go.Addr), ∃ (x_35 : Nat), ∃ (x_36 : Nat), v = Go.Value.slice x_34 x_35 x_36 ∧ S w' ∧ ∃ (x_37 : Option
 Go.Addr), ∃ (x_38 : Nat), ∃ (x_39 : Nat), ∃ (w'_5 : Go.World), Go.Sx.RunsTo Go.Proofs.Try.prog (Go.convert (9 : Nat) (30 : Nat) (Go.Value.string r_1)) w' (Go.Value.slice x_37 x_38 x_39) w'_5 ∧
 Go.Sx.CallsV Go.Proofs.Try.prog (21 : Nat) #[Go.Value.slice x_37 x_38 x_39, Go.Value.slice x_1 x_2 x_3] w'_5 fun (v : Go.Value) (w' : Go.World) => ∃ (x_40 : Option Go.Addr), ∃ (x_41 : Nat), ∃ (x_42 :
 Nat), v = Go.Value.slice x_40 x_41 x_42 ∧ Go.Sx.CallsV Go.Proofs.Try.prog (22 : Nat) #[Go.Value.slice x x_29 x_30, Go.Value.slice l_A l_n l_c] w' fun (v : Go.Value) (w' : Go.World) => ∃ (x : Option
 Go.Addr), ∃ (x_43 : Nat), ∃ (x_44 : Nat), v = Go.Value.slice x x_43 x_44 ∧ ∃ (S : Go.World → Prop), S (Go.World.drew w') ∧ ∃ (r : ByteArray), (∀ (u : Go.World), S u → Go.Sx.RunsTo Go.Proofs.Try.prog
 (Go.convert (30 : Nat) (9 : Nat) (Go.Value.slice x_34 x_35 x_36)) u (Go.Value.string r) u) ∧ Go.Sx.CallsV Go.Proofs.Try.prog (23 : Nat) #[Go.Value.slice b_A b_n b_c, Go.Value.int Go.IntKind.u64 n]
 (Go.World.drew w') fun (v : Go.Value) (w' : Go.World) => ∃ (x_45 : Option Go.Addr), ∃ (x_46 : Nat), ∃ (x_47 : Nat), v = Go.Value.slice x_45 x_46 x_47 ∧ S w' ∧ ∃ (S_1 : Go.World → Prop), S_1 w' ∧ ∃ (r_3
 : ByteArray), (∀ (u : Go.World), S_1 u → Go.Sx.RunsTo Go.Proofs.Try.prog (Go.convert (30 : Nat) (9 : Nat) (Go.Value.slice x_45 x_46 x_47)) u (Go.Value.string r_3) u) ∧ bif ByteArray.toList r ==
 ByteArray.toList r_3 then ∃ (r : ByteArray), (∀ (u : Go.World), S_1 u → Go.Sx.RunsTo Go.Proofs.Try.prog (Go.convert (30 : Nat) (9 : Nat) (Go.Value.slice x_40 x_41 x_42)) u (Go.Value.string r) u) ∧
 Go.Sx.CallsV Go.Proofs.Try.prog (24 : Nat) #[Go.Value.slice b_A b_n b_c, Go.Value.slice b_A b_n b_c] w' fun (v : Go.Value) (w' : Go.World) => ∃ (x_48 : Option Go.Addr), ∃ (x_49 : Nat), ∃ (x_50 : Nat),
 v = Go.Value.slice x_48 x_49 x_50 ∧ S_1 w' ∧ S w' ∧ ∃ (S_2 : Go.World → Prop), S_2 w' ∧ ∃ (r_4 : ByteArray), (∀ (u : Go.World), S_2 u → Go.Sx.RunsTo Go.Proofs.Try.prog (Go.convert (30 : Nat) (9 : Nat)
 (Go.Value.slice x_48 x_49 x_50)) u (Go.Value.string r_4) u) ∧ bif ByteArray.toList r == ByteArray.toList r_4 then ∃ (r : ByteArray), (∀ (u : Go.World), S_2 u → Go.Sx.RunsTo Go.Proofs.Try.prog
 (Go.convert (30 : Nat) (9 : Nat) (Go.Value.slice x x_43 x_44)) u (Go.Value.string r) u) ∧ Go.Sx.CallsV Go.Proofs.Try.prog (25 : Nat) #[Go.Value.slice b_A b_n b_c, Go.Value.slice l_A l_n l_c] w' fun (v
 : Go.Value) (w' : Go.World) => ∃ (x : Option Go.Addr), ∃ (x_51 : Nat), ∃ (x_52 : Nat), v = Go.Value.slice x x_51 x_52 ∧ S_2 w' ∧ S_1 w' ∧ S w' ∧ ∃ (S_3 : Go.World → Prop), S_3 w' ∧ ∃ (r_5 : ByteArray),
 (∀ (u : Go.World), S_3 u → Go.Sx.RunsTo Go.Proofs.Try.prog (Go.convert (30 : Nat) (9 : Nat) (Go.Value.slice x x_51 x_52)) u (Go.Value.string r_5) u) ∧ bif ByteArray.toList r == ByteArray.toList r_5
 then ∃ (r : ByteArray), (∀ (u : Go.World), S_3 u → Go.Sx.RunsTo Go.Proofs.Try.prog (Go.convert (30 : Nat) (9 : Nat) (Go.Value.slice x_1 x_2 x_3)) u (Go.Value.string r) u) ∧ ∃ (r_6 : ByteArray), (∀ (u :
 Go.World), S_3 u → Go.Sx.RunsTo Go.Proofs.Try.prog (Go.convert (30 : Nat) (9 : Nat) (Go.Value.slice b_A b_n b_c)) u (Go.Value.string r_6) u) ∧ bif ByteArray.toList r == ByteArray.toList r_6 then
 Go.Sx.CallsV Go.Proofs.Try.prog (14 : Nat) #[] w' fun (v : Go.Value) (w' : Go.World) => ∃ (x : Bool), v = Go.Value.bool x ∧ S_3 w' ∧ S_2 w' ∧ S_1 w' ∧ S w' ∧ K (Go.Value.bool x) w' else K
 (Go.Value.bool Bool.false) w' else K (Go.Value.bool Bool.false) w' else K (Go.Value.bool Bool.false) w' else K (Go.Value.bool Bool.false) w') ∧ ∃ (x_34 : Option Go.Addr), ∃ (x_35 : Nat), ∃ (x_36 :
 Nat), ∃ (w'_5 : Go.World), Go.Sx.RunsTo Go.Proofs.Try.prog (Go.convert (9 : Nat) (30 : Nat) (Go.Value.string r_1)) w' (Go.Value.slice x_34 x_35 x_36) w'_5 ∧ Go.Sx.CallsV Go.Proofs.Try.prog (20 : Nat)
 #[Go.Value.slice x_31 x_32 x_33, Go.Value.int Go.IntKind.u64 n] w'_5 fun (v : Go.Value) (w' : Go.World) => ∃ (x_37 : Option Go.Addr), ∃ (x_38 : Nat), ∃ (x_39 : Nat), v = Go.Value.slice x_37 x_38 x_39 ∧
 Go.Sx.CallsV Go.Proofs.Try.prog (21 : Nat) #[Go.Value.slice x_34 x_35 x_36, Go.Value.slice x_1 x_2 x_3] w' fun (v : Go.Value) (w' : Go.World) => ∃ (x_40 : Option Go.Addr), ∃ (x_41 : Nat), ∃ (x_42 :
 Nat), v = Go.Value.slice x_40 x_41 x_42 ∧ Go.Sx.CallsV Go.Proofs.Try.prog (22 : Nat) #[Go.Value.slice x x_29 x_30, Go.Value.slice l_A l_n l_c] w' fun (v : Go.Value) (w' : Go.World) => ∃ (x : Option
 Go.Addr), ∃ (x_43 : Nat), ∃ (x_44 : Nat), v = Go.Value.slice x x_43 x_44 ∧ ∃ (S : Go.World → Prop), S (Go.World.drew w') ∧ ∃ (r : ByteArray), (∀ (u : Go.World), S u → Go.Sx.RunsTo Go.Proofs.Try.prog
 (Go.convert (30 : Nat) (9 : Nat) (Go.Value.slice x_37 x_38 x_39)) u (Go.Value.string r) u) ∧ Go.Sx.CallsV Go.Proofs.Try.prog (23 : Nat) #[Go.Value.slice b_A b_n b_c, Go.Value.int Go.IntKind.u64 n]
 (Go.World.drew w') fun (v : Go.Value) (w' : Go.World) => ∃ (x_45 : Option Go.Addr), ∃ (x_46 : Nat), ∃ (x_47 : Nat), v = Go.Value.slice x_45 x_46 x_47 ∧ S w' ∧ ∃ (S_1 : Go.World → Prop), S_1 w' ∧ ∃ (r_3
 : ByteArray), (∀ (u : Go.World), S_1 u → Go.Sx.RunsTo Go.Proofs.Try.prog (Go.convert (30 : Nat) (9 : Nat) (Go.Value.slice x_45 x_46 x_47)) u (Go.Value.string r_3) u) ∧ bif ByteArray.toList r ==
 ByteArray.toList r_3 then ∃ (r : ByteArray), (∀ (u : Go.World), S_1 u → Go.Sx.RunsTo Go.Proofs.Try.prog (Go.convert (30 : Nat) (9 : Nat) (Go.Value.slice x_40 x_41 x_42)) u (Go.Value.string r) u) ∧
 Go.Sx.CallsV Go.Proofs.Try.prog (24 : Nat) #[Go.Value.slice b_A b_n b_c, Go.Value.slice b_A b_n b_c] w' fun (v : Go.Value) (w' : Go.World) => ∃ (x_48 : Option Go.Addr), ∃ (x_49 : Nat), ∃ (x_50 : Nat),
 v = Go.Value.slice x_48 x_49 x_50 ∧ S_1 w' ∧ S w' ∧ ∃ (S_2 : Go.World → Prop), S_2 w' ∧ ∃ (r_4 : ByteArray), (∀ (u : Go.World), S_2 u → Go.Sx.RunsTo Go.Proofs.Try.prog (Go.convert (30 : Nat) (9 : Nat)
 (Go.Value.slice x_48 x_49 x_50)) u (Go.Value.string r_4) u) ∧ bif ByteArray.toList r == ByteArray.toList r_4 then ∃ (r : ByteArray), (∀ (u : Go.World), S_2 u → Go.Sx.RunsTo Go.Proofs.Try.prog
 (Go.convert (30 : Nat) (9 : Nat) (Go.Value.slice x x_43 x_44)) u (Go.Value.string r) u) ∧ Go.Sx.CallsV Go.Proofs.Try.prog (25 : Nat) #[Go.Value.slice b_A b_n b_c, Go.Value.slice l_A l_n l_c] w' fun (v
 : Go.Value) (w' : Go.World) => ∃ (x : Option Go.Addr), ∃ (x_51 : Nat), ∃ (x_52 : Nat), v = Go.Value.slice x x_51 x_52 ∧ S_2 w' ∧ S_1 w' ∧ S w' ∧ ∃ (S_3 : Go.World → Prop), S_3 w' ∧ ∃ (r_5 : ByteArray),
 (∀ (u : Go.World), S_3 u → Go.Sx.RunsTo Go.Proofs.Try.prog (Go.convert (30 : Nat) (9 : Nat) (Go.Value.slice x x_51 x_52)) u (Go.Value.string r_5) u) ∧ bif ByteArray.toList r == ByteArray.toList r_5
 then ∃ (r : ByteArray), (∀ (u : Go.World), S_3 u → Go.Sx.RunsTo Go.Proofs.Try.prog (Go.convert (30 : Nat) (9 : Nat) (Go.Value.slice x_1 x_2 x_3)) u (Go.Value.string r) u) ∧ ∃ (r_6 : ByteArray), (∀ (u :
 Go.World), S_3 u → Go.Sx.RunsTo Go.Proofs.Try.prog (Go.convert (30 : Nat) (9 : Nat) (Go.Value.slice b_A b_n b_c)) u (Go.Value.string r_6) u) ∧ bif ByteArray.toList r == ByteArray.toList r_6 then
 Go.Sx.CallsV Go.Proofs.Try.prog (14 : Nat) #[] w' fun (v : Go.Value) (w' : Go.World) => ∃ (x : Bool), v = Go.Value.bool x ∧ S_3 w' ∧ S_2 w' ∧ S_1 w' ∧ S w' ∧ K (Go.Value.bool x) w' else K
 (Go.Value.bool Bool.false) w' else K (Go.Value.bool Bool.false) w' else K (Go.Value.bool Bool.false) w' else K (Go.Value.bool Bool.false) w') ∧ ∃ (x_31 : Option Go.Addr), ∃ (x_32 : Nat), ∃ (x_33 :
 Nat), ∃ (w' : Go.World), Go.Sx.RunsTo Go.Proofs.Try.prog (Go.convert (9 : Nat) (30 : Nat) (Go.Value.string r_1)) w'_4 (Go.Value.slice x_31 x_32 x_33) w' ∧ S w' ∧ ∃ (x_34 : Option Go.Addr), ∃ (x_35 :
 Nat), ∃ (x_36 : Nat), ∃ (w'_5 : Go.World), Go.Sx.RunsTo Go.Proofs.Try.prog (Go.convert (9 : Nat) (30 : Nat) (Go.Value.string r)) w' (Go.Value.slice x_34 x_35 x_36) w'_5 ∧ Go.Sx.CallsV
 Go.Proofs.Try.prog (20 : Nat) #[Go.Value.slice x_34 x_35 x_36, Go.Value.int Go.IntKind.u64 n] w'_5 fun (v : Go.Value) (w' : Go.World) => ∃ (x_37 : Option Go.Addr), ∃ (x_38 : Nat), ∃ (x_39 : Nat), v =
 Go.Value.slice x_37 x_38 x_39 ∧ Go.Sx.CallsV Go.Proofs.Try.prog (21 : Nat) #[Go.Value.slice x_31 x_32 x_33, Go.Value.slice x_1 x_2 x_3] w' fun (v : Go.Value) (w' : Go.World) => ∃ (x_40 : Option
 Go.Addr), ∃ (x_41 : Nat), ∃ (x_42 : Nat), v = Go.Value.slice x_40 x_41 x_42 ∧ Go.Sx.CallsV Go.Proofs.Try.prog (22 : Nat) #[Go.Value.slice x x_29 x_30, Go.Value.slice l_A l_n l_c] w' fun (v : Go.Value)
 (w' : Go.World) => ∃ (x : Option Go.Addr), ∃ (x_43 : Nat), ∃ (x_44 : Nat), v = Go.Value.slice x x_43 x_44 ∧ ∃ (S : Go.World → Prop), S (Go.World.drew w') ∧ ∃ (r : ByteArray), (∀ (u : Go.World), S u →
 Go.Sx.RunsTo Go.Proofs.Try.prog (Go.convert (30 : Nat) (9 : Nat) (Go.Value.slice x_37 x_38 x_39)) u (Go.Value.string r) u) ∧ Go.Sx.CallsV Go.Proofs.Try.prog (23 : Nat) #[Go.Value.slice b_A b_n b_c,
 Go.Value.int Go.IntKind.u64 n] (Go.World.drew w') fun (v : Go.Value) (w' : Go.World) => ∃ (x_45 : Option Go.Addr), ∃ (x_46 : Nat), ∃ (x_47 : Nat), v = Go.Value.slice x_45 x_46 x_47 ∧ S w' ∧ ∃ (S_1 :
 Go.World → Prop), S_1 w' ∧ ∃ (r_3 : ByteArray), (∀ (u : Go.World), S_1 u → Go.Sx.RunsTo Go.Proofs.Try.prog (Go.convert (30 : Nat) (9 : Nat) (Go.Value.slice x_45 x_46 x_47)) u (Go.Value.string r_3) u) ∧
 bif ByteArray.toList r == ByteArray.toList r_3 then ∃ (r : ByteArray), (∀ (u : Go.World), S_1 u → Go.Sx.RunsTo Go.Proofs.Try.prog (Go.convert (30 : Nat) (9 : Nat) (Go.Value.slice x_40 x_41 x_42)) u
 (Go.Value.string r) u) ∧ Go.Sx.CallsV Go.Proofs.Try.prog (24 : Nat) #[Go.Value.slice b_A b_n b_c, Go.Value.slice b_A b_n b_c] w' fun (v : Go.Value) (w' : Go.World) => ∃ (x_48 : Option Go.Addr), ∃ (x_49
 : Nat), ∃ (x_50 : Nat), v = Go.Value.slice x_48 x_49 x_50 ∧ S_1 w' ∧ S w' ∧ ∃ (S_2 : Go.World → Prop), S_2 w' ∧ ∃ (r_4 : ByteArray), (∀ (u : Go.World), S_2 u → Go.Sx.RunsTo Go.Proofs.Try.prog
 (Go.convert (30 : Nat) (9 : Nat) (Go.Value.slice x_48 x_49 x_50)) u (Go.Value.string r_4) u) ∧ bif ByteArray.toList r == ByteArray.toList r_4 then ∃ (r : ByteArray), (∀ (u : Go.World), S_2 u →
 Go.Sx.RunsTo Go.Proofs.Try.prog (Go.convert (30 : Nat) (9 : Nat) (Go.Value.slice x x_43 x_44)) u (Go.Value.string r) u) ∧ Go.Sx.CallsV Go.Proofs.Try.prog (25 : Nat) #[Go.Value.slice b_A b_n b_c,
 Go.Value.slice l_A l_n l_c] w' fun (v : Go.Value) (w' : Go.World) => ∃ (x : Option Go.Addr), ∃ (x_51 : Nat), ∃ (x_52 : Nat), v = Go.Value.slice x x_51 x_52 ∧ S_2 w' ∧ S_1 w' ∧ S w' ∧ ∃ (S_3 : Go.World
 → Prop), S_3 w' ∧ ∃ (r_5 : ByteArray), (∀ (u : Go.World), S_3 u → Go.Sx.RunsTo Go.Proofs.Try.prog (Go.convert (30 : Nat) (9 : Nat) (Go.Value.slice x x_51 x_52)) u (Go.Value.string r_5) u) ∧ bif
 ByteArray.toList r == ByteArray.toList r_5 then ∃ (r : ByteArray), (∀ (u : Go.World), S_3 u → Go.Sx.RunsTo Go.Proofs.Try.prog (Go.convert (30 : Nat) (9 : Nat) (Go.Value.slice x_1 x_2 x_3)) u
 (Go.Value.string r) u) ∧ ∃ (r_6 : ByteArray), (∀ (u : Go.World), S_3 u → Go.Sx.RunsTo Go.Proofs.Try.prog (Go.convert (30 : Nat) (9 : Nat) (Go.Value.slice b_A b_n b_c)) u (Go.Value.string r_6) u) ∧ bif
 ByteArray.toList r == ByteArray.toList r_6 then Go.Sx.CallsV Go.Proofs.Try.prog (14 : Nat) #[] w' fun (v : Go.Value) (w' : Go.World) => ∃ (x : Bool), v = Go.Value.bool x ∧ S_3 w' ∧ S_2 w' ∧ S_1 w' ∧ S
 w' ∧ K (Go.Value.bool x) w' else K (Go.Value.bool Bool.false) w' else K (Go.Value.bool Bool.false) w' else K (Go.Value.bool Bool.false) w' else K (Go.Value.bool Bool.false) w'
theorem cardindexlaw01_BytesTells.eq (n : Int) (b_A : Option Addr) (b_n : Nat) (b_c : Nat) (atx : Int) (many : Int) (most : Int) (l_A : Option Addr) (l_n : Nat) (l_c : Nat) (w : World) (K : Value → World → Prop) : cardindexlaw01_BytesTells.W n b_A b_n b_c atx many most l_A l_n l_c w K = fnW Try.prog Try.f4 (.named (.seq .auto (.seq .auto (.seq (.seq .auto (.block (.loop [(39, .one (.int .i64))] .auto))) .auto)))) [.int .u64 n, .slice b_A b_n b_c, .int .i64 atx, .int .i64 many, .int .i64 most, .slice l_A l_n l_c] w K := by kernel_rfl
theorem cardindexlaw01_BytesTells.calls (ok : Okay Try.prog) {n : Int} {b_A : Option Addr} {b_n : Nat} {b_c : Nat} {atx : Int} {many : Int} {most : Int} {l_A : Option Addr} {l_n : Nat} {l_c : Nat} {w : World} {K : Value → World → Prop} (h : cardindexlaw01_BytesTells.W n b_A b_n b_c atx many most l_A l_n l_c w K) : CallsV Try.prog 4 #[.int .u64 n, .slice b_A b_n b_c, .int .i64 atx, .int .i64 many, .int .i64 most, .slice l_A l_n l_c] w K :=
  fnW_calls ok Try.func4 (an := (.named (.seq .auto (.seq .auto (.seq (.seq .auto (.block (.loop [(39, .one (.int .i64))] .auto))) .auto))))) (args := [.int .u64 n, .slice b_A b_n b_c, .int .i64 atx, .int .i64 many, .int .i64 most, .slice l_A l_n l_c]) (by rw [← cardindexlaw01_BytesTells.eq]; exact h)
end Go.Proofs.Ytbpcfkahnhlahaa
