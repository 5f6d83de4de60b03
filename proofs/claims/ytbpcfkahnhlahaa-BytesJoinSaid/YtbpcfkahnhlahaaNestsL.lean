/- The preconditions of Go functions, printed by a program of this workplace (nests.py); each is proved to be the engine's own. -/
import Derived.Test.YtbpcfkahnhlahaaProg
import Derived.Test.YtbpcfkahnhlahaaSxWp
set_option linter.unusedVariables false
set_option maxRecDepth 100000
namespace Go.Proofs.Ytbpcfkahnhlahaa
open Go Go.Sx
noncomputable def cardindexlaw01_BytesLimits.W : Option Addr → Nat → Nat → Int → Int → Int → World → (Value → World → Prop) → Prop := fun (l_A : Option Go.Addr) (l_n l_c : Nat) (many most cut : Int) (w
 : Go.World) (K : Go.Value → Go.World → Prop) => bif Decidable.decide ((10 : Int) < (↑l_n : Int)) then Go.Sx.CallsV Go.Proofs.Try.prog (14 : Nat) #[] w fun (v : Go.Value) (w' : Go.World) => ∃ (x :
 Bool), v = Go.Value.bool x ∧ K (Go.Value.bool x) w' else ∃ (I : Int → Int → Go.World → Prop), ∃ (μ : Int → Int → Go.World → Nat), I (0 : Int) (0 : Int) w ∧ ∀ (x x_1 : Int) (w : Go.World), I x x_1 w →
 bif Decidable.decide (x_1 < (↑l_n : Int)) then ∃ (ad : Go.Addr), l_A = Option.some ad ∧ ((0 : Int) ≤ x_1 ∧ x_1 < (↑l_n : Int)) ∧ ∃ (x_2 : Option Go.Addr), ∃ (x_3 : Nat), ∃ (x_4 : Nat), Go.World.cell? w
 (Go.Addr.add ad (Int.toNat x_1 * (1 : Nat))) = Option.some (Go.Value.slice x_2 x_3 x_4) ∧ bif Decidable.decide ((80 : Int) < (↑x_3 : Int)) then Go.Sx.CallsV Go.Proofs.Try.prog (14 : Nat) #[] w fun (v :
 Go.Value) (w' : Go.World) => ∃ (x : Bool), v = Go.Value.bool x ∧ K (Go.Value.bool x) w' else I (if (↑x_3 : Int) > x then (↑x_3 : Int) else x) (Go.IntKind.wrap Go.IntKind.i64 (x_1 + (1 : Int))) w ∧ μ
 (if (↑x_3 : Int) > x then (↑x_3 : Int) else x) (Go.IntKind.wrap Go.IntKind.i64 (x_1 + (1 : Int))) w < μ x x_1 w else Go.Sx.CallsV Go.Proofs.Try.prog (22 : Nat) #[Go.Value.slice Option.none (0 : Nat) (0
 : Nat), Go.Value.slice l_A l_n l_c] w fun (v : Go.Value) (w' : Go.World) => ∃ (x_2 : Option Go.Addr), ∃ (x_3 : Nat), ∃ (x_4 : Nat), v = Go.Value.slice x_2 x_3 x_4 ∧ Go.Sx.CallsV Go.Proofs.Try.prog (13
 : Nat) #[Go.Value.slice x_2 x_3 x_4, Go.Value.int Go.IntKind.i64 (0 : Int), Go.Value.int Go.IntKind.i64 many, Go.Value.int Go.IntKind.i64 most] w' fun (v : Go.Value) (w' : Go.World) => ∃ (x_5 : Option
 Go.Addr), ∃ (x_6 : Nat), ∃ (x_7 : Nat), ∃ (x_8 : Int), ∃ (x_9 : Int), v = Go.Value.tuple #[Go.Value.slice x_5 x_6 x_7, Go.Value.int Go.IntKind.i64 x_8, Go.Value.int Go.IntKind.i64 x_9] ∧ bif
 Decidable.decide ((↑l_n : Int) ≤ many) then bif Decidable.decide (x ≤ most) then bif Decidable.decide ((0 : Int) ≤ most) then ∃ (J : Go.World → Prop), (∀ (w : Go.World), J w → bif Decidable.decide
 ((↑x_3 : Int) = (0 : Int)) then K (Go.Value.bool Bool.false) w else (↑x_3 : Int) ≠ (0 : Int) ∧ ((0 : Int) ≤ Int.tmod (Go.IntKind.wrap Go.IntKind.i64 cut) (↑x_3 : Int) ∧ Int.tmod (Go.IntKind.wrap
 Go.IntKind.i64 cut) (↑x_3 : Int) ≤ (↑x_4 : Int)) ∧ Go.Sx.CallsV Go.Proofs.Try.prog (13 : Nat) #[Go.Value.slice (Go.Sx.cutAt x_2 x_4 (0 : Nat) (1 : Nat)) (Int.toNat (Int.tmod (Go.IntKind.wrap
 Go.IntKind.i64 cut) (↑x_3 : Int)) - (0 : Nat)) (x_4 - (0 : Nat)), Go.Value.int Go.IntKind.i64 (0 : Int), Go.Value.int Go.IntKind.i64 (10 : Int), Go.Value.int Go.IntKind.i64 (80 : Int)] w fun (v :
 Go.Value) (w' : Go.World) => ∃ (x : Option Go.Addr), ∃ (x_10 : Nat), ∃ (x_11 : Nat), ∃ (x_12 : Int), ∃ (x_13 : Int), v = Go.Value.tuple #[Go.Value.slice x x_10 x_11, Go.Value.int Go.IntKind.i64 x_12,
 Go.Value.int Go.IntKind.i64 x_13] ∧ ((0 : Int) ≤ Int.tmod (Go.IntKind.wrap Go.IntKind.i64 cut) (↑x_3 : Int) ∧ Int.tmod (Go.IntKind.wrap Go.IntKind.i64 cut) (↑x_3 : Int) ≤ (↑x_4 : Int)) ∧ Go.Sx.CallsV
 Go.Proofs.Try.prog (13 : Nat) #[Go.Value.slice (Go.Sx.cutAt x_2 x_4 (0 : Nat) (1 : Nat)) (Int.toNat (Int.tmod (Go.IntKind.wrap Go.IntKind.i64 cut) (↑x_3 : Int)) - (0 : Nat)) (x_4 - (0 : Nat)),
 Go.Value.int Go.IntKind.i64 (0 : Int), Go.Value.int Go.IntKind.i64 (Go.IntKind.wrap Go.IntKind.i64 ((↑l_n : Int) - (1 : Int))), Go.Value.int Go.IntKind.i64 (80 : Int)] w' fun (v : Go.Value) (w' :
 Go.World) => ∃ (x : Option Go.Addr), ∃ (x_14 : Nat), ∃ (x_15 : Nat), ∃ (x_16 : Int), ∃ (x_17 : Int), v = Go.Value.tuple #[Go.Value.slice x x_14 x_15, Go.Value.int Go.IntKind.i64 x_16, Go.Value.int
 Go.IntKind.i64 x_17] ∧ ∃ (J : Go.World → Prop), (∀ (w : Go.World), J w → bif Decidable.decide (x_13 = (11 : Int)) then Go.Sx.CallsV Go.Proofs.Try.prog (14 : Nat) #[] w fun (v : Go.Value) (w' :
 Go.World) => ∃ (x : Bool), v = Go.Value.bool x ∧ K (Go.Value.bool x) w' else K (Go.Value.bool Bool.false) w) ∧ bif Decidable.decide ((0 : Int) < Int.tmod (Go.IntKind.wrap Go.IntKind.i64 cut) (↑x_3 :
 Int)) then bif !Decidable.decide (x_17 = (3 : Int)) then K (Go.Value.bool Bool.false) w' else bif Decidable.decide (Int.tmod (Go.IntKind.wrap Go.IntKind.i64 cut) (↑x_3 : Int) = (0 : Int)) then bif
 !Decidable.decide (x_17 = (11 : Int)) then K (Go.Value.bool Bool.false) w' else J w' else J w' else bif Decidable.decide (Int.tmod (Go.IntKind.wrap Go.IntKind.i64 cut) (↑x_3 : Int) = (0 : Int)) then
 bif !Decidable.decide (x_17 = (11 : Int)) then K (Go.Value.bool Bool.false) w' else J w' else J w') ∧ bif !Decidable.decide (Decidable.decide (x_9 = (0 : Int)) = Bool.true) then K (Go.Value.bool
 Bool.false) w' else bif !Decidable.decide (x_8 = (↑x_3 : Int)) then K (Go.Value.bool Bool.false) w' else J w' else ∃ (J : Go.World → Prop), (∀ (w : Go.World), J w → bif Decidable.decide ((↑x_3 : Int) =
 (0 : Int)) then K (Go.Value.bool Bool.false) w else (↑x_3 : Int) ≠ (0 : Int) ∧ ((0 : Int) ≤ Int.tmod (Go.IntKind.wrap Go.IntKind.i64 cut) (↑x_3 : Int) ∧ Int.tmod (Go.IntKind.wrap Go.IntKind.i64 cut)
 (↑x_3 : Int) ≤ (↑x_4 : Int)) ∧ Go.Sx.CallsV Go.Proofs.Try.prog (13 : Nat) #[Go.Value.slice (Go.Sx.cutAt x_2 x_4 (0 : Nat) (1 : Nat)) (Int.toNat (Int.tmod (Go.IntKind.wrap Go.IntKind.i64 cut) (↑x_3 :
 Int)) - (0 : Nat)) (x_4 - (0 : Nat)), Go.Value.int Go.IntKind.i64 (0 : Int), Go.Value.int Go.IntKind.i64 (10 : Int), Go.Value.int Go.IntKind.i64 (80 : Int)] w fun (v : Go.Value) (w' : Go.World) => ∃ (x
 : Option Go.Addr), ∃ (x_10 : Nat), ∃ (x_11 : Nat), ∃ (x_12 : Int), ∃ (x_13 : Int), v = Go.Value.tuple #[Go.Value.slice x x_10 x_11, Go.Value.int Go.IntKind.i64 x_12, Go.Value.int Go.IntKind.i64 x_13] ∧
 ((0 : Int) ≤ Int.tmod (Go.IntKind.wrap Go.IntKind.i64 cut) (↑x_3 : Int) ∧ Int.tmod (Go.IntKind.wrap Go.IntKind.i64 cut) (↑x_3 : Int) ≤ (↑x_4 : Int)) ∧ Go.Sx.CallsV Go.Proofs.Try.prog (13 : Nat)
 #[Go.Value.slice (Go.Sx.cutAt x_2 x_4 (0 : Nat) (1 : Nat)) (Int.toNat (Int.tmod (Go.IntKind.wrap Go.IntKind.i64 cut) (↑x_3 : Int)) - (0 : Nat)) (x_4 - (0 : Nat)), Go.Value.int Go.IntKind.i64 (0 : Int),
 Go.Value.int Go.IntKind.i64 (Go.IntKind.wrap Go.IntKind.i64 ((↑l_n : Int) - (1 : Int))), Go.Value.int Go.IntKind.i64 (80 : Int)] w' fun (v : Go.Value) (w' : Go.World) => ∃ (x : Option Go.Addr), ∃ (x_14
 : Nat), ∃ (x_15 : Nat), ∃ (x_16 : Int), ∃ (x_17 : Int), v = Go.Value.tuple #[Go.Value.slice x x_14 x_15, Go.Value.int Go.IntKind.i64 x_16, Go.Value.int Go.IntKind.i64 x_17] ∧ ∃ (J : Go.World → Prop),
 (∀ (w : Go.World), J w → bif Decidable.decide (x_13 = (11 : Int)) then Go.Sx.CallsV Go.Proofs.Try.prog (14 : Nat) #[] w fun (v : Go.Value) (w' : Go.World) => ∃ (x : Bool), v = Go.Value.bool x ∧ K
 (Go.Value.bool x) w' else K (Go.Value.bool Bool.false) w) ∧ bif Decidable.decide ((0 : Int) < Int.tmod (Go.IntKind.wrap Go.IntKind.i64 cut) (↑x_3 : Int)) then bif !Decidable.decide (x_17 = (3 : Int))
 then K (Go.Value.bool Bool.false) w' else bif Decidable.decide (Int.tmod (Go.IntKind.wrap Go.IntKind.i64 cut) (↑x_3 : Int) = (0 : Int)) then bif !Decidable.decide (x_17 = (11 : Int)) then K
 (Go.Value.bool Bool.false) w' else J w' else J w' else bif Decidable.decide (Int.tmod (Go.IntKind.wrap Go.IntKind.i64 cut) (↑x_3 : Int) = (0 : Int)) then bif !Decidable.decide (x_17 = (11 : Int)) then
 K (Go.Value.bool Bool.false) w' else J w' else J w') ∧ bif !Decidable.decide (Decidable.decide (x_9 = (0 : Int)) = Decidable.decide ((↑l_n : Int) = (0 : Int))) then K (Go.Value.bool Bool.false) w' else
 bif !Decidable.decide ((↑l_n : Int) = (0 : Int)) then bif !Decidable.decide (x_9 = (3 : Int)) then K (Go.Value.bool Bool.false) w' else bif Decidable.decide ((↑l_n : Int) = (0 : Int)) then bif
 !Decidable.decide (x_8 = (↑x_3 : Int)) then K (Go.Value.bool Bool.false) w' else J w' else J w' else bif Decidable.decide ((↑l_n : Int) = (0 : Int)) then bif !Decidable.decide (x_8 = (↑x_3 : Int)) then
 K (Go.Value.bool Bool.false) w' else J w' else J w' else bif Decidable.decide ((↑l_n : Int) = (0 : Int)) then bif Decidable.decide ((0 : Int) ≤ most) then ∃ (J : Go.World → Prop), (∀ (w : Go.World), J
 w → bif Decidable.decide ((↑x_3 : Int) = (0 : Int)) then K (Go.Value.bool Bool.false) w else (↑x_3 : Int) ≠ (0 : Int) ∧ ((0 : Int) ≤ Int.tmod (Go.IntKind.wrap Go.IntKind.i64 cut) (↑x_3 : Int) ∧
 Int.tmod (Go.IntKind.wrap Go.IntKind.i64 cut) (↑x_3 : Int) ≤ (↑x_4 : Int)) ∧ Go.Sx.CallsV Go.Proofs.Try.prog (13 : Nat) #[Go.Value.slice (Go.Sx.cutAt x_2 x_4 (0 : Nat) (1 : Nat)) (Int.toNat (Int.tmod
 (Go.IntKind.wrap Go.IntKind.i64 cut) (↑x_3 : Int)) - (0 : Nat)) (x_4 - (0 : Nat)), Go.Value.int Go.IntKind.i64 (0 : Int), Go.Value.int Go.IntKind.i64 (10 : Int), Go.Value.int Go.IntKind.i64 (80 : Int)]
 w fun (v : Go.Value) (w' : Go.World) => ∃ (x : Option Go.Addr), ∃ (x_10 : Nat), ∃ (x_11 : Nat), ∃ (x_12 : Int), ∃ (x_13 : Int), v = Go.Value.tuple #[Go.Value.slice x x_10 x_11, Go.Value.int
 Go.IntKind.i64 x_12, Go.Value.int Go.IntKind.i64 x_13] ∧ ((0 : Int) ≤ Int.tmod (Go.IntKind.wrap Go.IntKind.i64 cut) (↑x_3 : Int) ∧ Int.tmod (Go.IntKind.wrap Go.IntKind.i64 cut) (↑x_3 : Int) ≤ (↑x_4 :
 Int)) ∧ Go.Sx.CallsV Go.Proofs.Try.prog (13 : Nat) #[Go.Value.slice (Go.Sx.cutAt x_2 x_4 (0 : Nat) (1 : Nat)) (Int.toNat (Int.tmod (Go.IntKind.wrap Go.IntKind.i64 cut) (↑x_3 : Int)) - (0 : Nat)) (x_4 -
 (0 : Nat)), Go.Value.int Go.IntKind.i64 (0 : Int), Go.Value.int Go.IntKind.i64 (Go.IntKind.wrap Go.IntKind.i64 ((↑l_n : Int) - (1 : Int))), Go.Value.int Go.IntKind.i64 (80 : Int)] w' fun (v : Go.Value)
 (w' : Go.World) => ∃ (x : Option Go.Addr), ∃ (x_14 : Nat), ∃ (x_15 : Nat), ∃ (x_16 : Int), ∃ (x_17 : Int), v = Go.Value.tuple #[Go.Value.slice x x_14 x_15, Go.Value.int Go.IntKind.i64 x_16,
 Go.Value.int Go.IntKind.i64 x_17] ∧ ∃ (J : Go.World → Prop), (∀ (w : Go.World), J w → bif Decidable.decide (x_13 = (11 : Int)) then Go.Sx.CallsV Go.Proofs.Try.prog (14 : Nat) #[] w fun (v : Go.Value)
 (w' : Go.World) => ∃ (x : Bool), v = Go.Value.bool x ∧ K (Go.Value.bool x) w' else K (Go.Value.bool Bool.false) w) ∧ bif Decidable.decide ((0 : Int) < Int.tmod (Go.IntKind.wrap Go.IntKind.i64 cut)
 (↑x_3 : Int)) then bif !Decidable.decide (x_17 = (3 : Int)) then K (Go.Value.bool Bool.false) w' else bif Decidable.decide (Int.tmod (Go.IntKind.wrap Go.IntKind.i64 cut) (↑x_3 : Int) = (0 : Int)) then
 bif !Decidable.decide (x_17 = (11 : Int)) then K (Go.Value.bool Bool.false) w' else J w' else J w' else bif Decidable.decide (Int.tmod (Go.IntKind.wrap Go.IntKind.i64 cut) (↑x_3 : Int) = (0 : Int))
 then bif !Decidable.decide (x_17 = (11 : Int)) then K (Go.Value.bool Bool.false) w' else J w' else J w') ∧ bif !Decidable.decide (Decidable.decide (x_9 = (0 : Int)) = Bool.true) then K (Go.Value.bool
 Bool.false) w' else bif !Decidable.decide (x_8 = (↑x_3 : Int)) then K (Go.Value.bool Bool.false) w' else J w' else ∃ (J : Go.World → Prop), (∀ (w : Go.World), J w → bif Decidable.decide ((↑x_3 : Int) =
 (0 : Int)) then K (Go.Value.bool Bool.false) w else (↑x_3 : Int) ≠ (0 : Int) ∧ ((0 : Int) ≤ Int.tmod (Go.IntKind.wrap Go.IntKind.i64 cut) (↑x_3 : Int) ∧ Int.tmod (Go.IntKind.wrap Go.IntKind.i64 cut)
 (↑x_3 : Int) ≤ (↑x_4 : Int)) ∧ Go.Sx.CallsV Go.Proofs.Try.prog (13 : Nat) #[Go.Value.slice (Go.Sx.cutAt x_2 x_4 (0 : Nat) (1 : Nat)) (Int.toNat (Int.tmod (Go.IntKind.wrap Go.IntKind.i64 cut) (↑x_3 :
 Int)) - (0 : Nat)) (x_4 - (0 : Nat)), Go.Value.int Go.IntKind.i64 (0 : Int), Go.Value.int Go.IntKind.i64 (10 : Int), Go.Value.int Go.IntKind.i64 (80 : Int)] w fun (v : Go.Value) (w' : Go.World) => ∃ (x
 : Option Go.Addr), ∃ (x_10 : Nat), ∃ (x_11 : Nat), ∃ (x_12 : Int), ∃ (x_13 : Int), v = Go.Value.tuple #[Go.Value.slice x x_10 x_11, Go.Value.int Go.IntKind.i64 x_12, Go.Value.int Go.IntKind.i64 x_13] ∧
 ((0 : Int) ≤ Int.tmod (Go.IntKind.wrap Go.IntKind.i64 cut) (↑x_3 : Int) ∧ Int.tmod (Go.IntKind.wrap Go.IntKind.i64 cut) (↑x_3 : Int) ≤ (↑x_4 : Int)) ∧ Go.Sx.CallsV Go.Proofs.Try.prog (13 : Nat)
 #[Go.Value.slice (Go.Sx.cutAt x_2 x_4 (0 : Nat) (1 : Nat)) (Int.toNat (Int.tmod (Go.IntKind.wrap Go.IntKind.i64 cut) (↑x_3 : Int)) - (0 : Nat)) (x_4 - (0 : Nat)), Go.Value.int Go.IntKind.i64 (0 : Int),
 Go.Value.int Go.IntKind.i64 (Go.IntKind.wrap Go.IntKind.i64 ((↑l_n : Int) - (1 : Int))), Go.Value.int Go.IntKind.i64 (80 : Int)] w' fun (v : Go.Value) (w' : Go.World) => ∃ (x : Option Go.Addr), ∃ (x_14
 : Nat), ∃ (x_15 : Nat), ∃ (x_16 : Int), ∃ (x_17 : Int), v = Go.Value.tuple #[Go.Value.slice x x_14 x_15, Go.Value.int Go.IntKind.i64 x_16, Go.Value.int Go.IntKind.i64 x_17] ∧ ∃ (J : Go.World → Prop),
 (∀ (w : Go.World), J w → bif Decidable.decide (x_13 = (11 : Int)) then Go.Sx.CallsV Go.Proofs.Try.prog (14 : Nat) #[] w fun (v : Go.Value) (w' : Go.World) => ∃ (x : Bool), v = Go.Value.bool x ∧ K
 (Go.Value.bool x) w' else K (Go.Value.bool Bool.false) w) ∧ bif Decidable.decide ((0 : Int) < Int.tmod (Go.IntKind.wrap Go.IntKind.i64 cut) (↑x_3 : Int)) then bif !Decidable.decide (x_17 = (3 : Int))
 then K (Go.Value.bool Bool.false) w' else bif Decidable.decide (Int.tmod (Go.IntKind.wrap Go.IntKind.i64 cut) (↑x_3 : Int) = (0 : Int)) then bif !Decidable.decide (x_17 = (11 : Int)) then K
 (Go.Value.bool Bool.false) w' else J w' else J w' else bif Decidable.decide (Int.tmod (Go.IntKind.wrap Go.IntKind.i64 cut) (↑x_3 : Int) = (0 : Int)) then bif !Decidable.decide (x_17 = (11 : Int)) then
 K (Go.Value.bool Bool.false) w' else J w' else J w') ∧ bif !Decidable.decide (Decidable.decide (x_9 = (0 : Int)) = Decidable.decide ((↑l_n : Int) = (0 : Int))) then K (Go.Value.bool Bool.false) w' else
 bif !Decidable.decide ((↑l_n : Int) = (0 : Int)) then bif !Decidable.decide (x_9 = (3 : Int)) then K (Go.Value.bool Bool.false) w' else bif Decidable.decide ((↑l_n : Int) = (0 : Int)) then bif
 !Decidable.decide (x_8 = (↑x_3 : Int)) then K (Go.Value.bool Bool.false) w' else J w' else J w' else bif Decidable.decide ((↑l_n : Int) = (0 : Int)) then bif !Decidable.decide (x_8 = (↑x_3 : Int)) then
 K (Go.Value.bool Bool.false) w' else J w' else J w' else ∃ (J : Go.World → Prop), (∀ (w : Go.World), J w → bif Decidable.decide ((↑x_3 : Int) = (0 : Int)) then K (Go.Value.bool Bool.false) w else (↑x_3
 : Int) ≠ (0 : Int) ∧ ((0 : Int) ≤ Int.tmod (Go.IntKind.wrap Go.IntKind.i64 cut) (↑x_3 : Int) ∧ Int.tmod (Go.IntKind.wrap Go.IntKind.i64 cut) (↑x_3 : Int) ≤ (↑x_4 : Int)) ∧ Go.Sx.CallsV
 Go.Proofs.Try.prog (13 : Nat) #[Go.Value.slice (Go.Sx.cutAt x_2 x_4 (0 : Nat) (1 : Nat)) (Int.toNat (Int.tmod (Go.IntKind.wrap Go.IntKind.i64 cut) (↑x_3 : Int)) - (0 : Nat)) (x_4 - (0 : Nat)),
 Go.Value.int Go.IntKind.i64 (0 : Int), Go.Value.int Go.IntKind.i64 (10 : Int), Go.Value.int Go.IntKind.i64 (80 : Int)] w fun (v : Go.Value) (w' : Go.World) => ∃ (x : Option Go.Addr), ∃ (x_10 : Nat), ∃
 (x_11 : Nat), ∃ (x_12 : Int), ∃ (x_13 : Int), v = Go.Value.tuple #[Go.Value.slice x x_10 x_11, Go.Value.int Go.IntKind.i64 x_12, Go.Value.int Go.IntKind.i64 x_13] ∧ ((0 : Int) ≤ Int.tmod
 (Go.IntKind.wrap Go.IntKind.i64 cut) (↑x_3 : Int) ∧ Int.tmod (Go.IntKind.wrap Go.IntKind.i64 cut) (↑x_3 : Int) ≤ (↑x_4 : Int)) ∧ Go.Sx.CallsV Go.Proofs.Try.prog (13 : Nat) #[Go.Value.slice (Go.Sx.cutAt
 x_2 x_4 (0 : Nat) (1 : Nat)) (Int.toNat (Int.tmod (Go.IntKind.wrap Go.IntKind.i64 cut) (↑x_3 : Int)) - (0 : Nat)) (x_4 - (0 : Nat)), Go.Value.int Go.IntKind.i64 (0 : Int), Go.Value.int Go.IntKind.i64
 (Go.IntKind.wrap Go.IntKind.i64 ((↑l_n : Int) - (1 : Int))), Go.Value.int Go.IntKind.i64 (80 : Int)] w' fun (v : Go.Value) (w' : Go.World) => ∃ (x : Option Go.Addr), ∃ (x_14 : Nat), ∃ (x_15 : Nat), ∃
 (x_16 : Int), ∃ (x_17 : Int), v = Go.Value.tuple #[Go.Value.slice x x_14 x_15, Go.Value.int Go.IntKind.i64 x_16, Go.Value.int Go.IntKind.i64 x_17] ∧ ∃ (J : Go.World → Prop), (∀ (w : Go.World), J w →
 bif Decidable.decide (x_13 = (11 : Int)) then Go.Sx.CallsV Go.Proofs.Try.prog (14 : Nat) #[] w fun (v : Go.Value) (w' : Go.World) => ∃ (x : Bool), v = Go.Value.bool x ∧ K (Go.Value.bool x) w' else K
 (Go.Value.bool Bool.false) w) ∧ bif Decidable.decide ((0 : Int) < Int.tmod (Go.IntKind.wrap Go.IntKind.i64 cut) (↑x_3 : Int)) then bif !Decidable.decide (x_17 = (3 : Int)) then K (Go.Value.bool
 Bool.false) w' else bif Decidable.decide (Int.tmod (Go.IntKind.wrap Go.IntKind.i64 cut) (↑x_3 : Int) = (0 : Int)) then bif !Decidable.decide (x_17 = (11 : Int)) then K (Go.Value.bool Bool.false) w'
 else J w' else J w' else bif Decidable.decide (Int.tmod (Go.IntKind.wrap Go.IntKind.i64 cut) (↑x_3 : Int) = (0 : Int)) then bif !Decidable.decide (x_17 = (11 : Int)) then K (Go.Value.bool Bool.false)
 w' else J w' else J w') ∧ bif !Decidable.decide (Decidable.decide (x_9 = (0 : Int)) = Bool.false) then K (Go.Value.bool Bool.false) w' else bif !Decidable.decide (x_9 = (3 : Int)) then K (Go.Value.bool
 Bool.false) w' else J w' else ∃ (J : Go.World → Prop), (∀ (w : Go.World), J w → bif Decidable.decide ((↑x_3 : Int) = (0 : Int)) then K (Go.Value.bool Bool.false) w else (↑x_3 : Int) ≠ (0 : Int) ∧ ((0 :
 Int) ≤ Int.tmod (Go.IntKind.wrap Go.IntKind.i64 cut) (↑x_3 : Int) ∧ Int.tmod (Go.IntKind.wrap Go.IntKind.i64 cut) (↑x_3 : Int) ≤ (↑x_4 : Int)) ∧ Go.Sx.CallsV Go.Proofs.Try.prog (13 : Nat)
 #[Go.Value.slice (Go.Sx.cutAt x_2 x_4 (0 : Nat) (1 : Nat)) (Int.toNat (Int.tmod (Go.IntKind.wrap Go.IntKind.i64 cut) (↑x_3 : Int)) - (0 : Nat)) (x_4 - (0 : Nat)), Go.Value.int Go.IntKind.i64 (0 : Int),
 Go.Value.int Go.IntKind.i64 (10 : Int), Go.Value.int Go.IntKind.i64 (80 : Int)] w fun (v : Go.Value) (w' : Go.World) => ∃ (x : Option Go.Addr), ∃ (x_10 : Nat), ∃ (x_11 : Nat), ∃ (x_12 : Int), ∃ (x_13 :
 Int), v = Go.Value.tuple #[Go.Value.slice x x_10 x_11, Go.Value.int Go.IntKind.i64 x_12, Go.Value.int Go.IntKind.i64 x_13] ∧ ((0 : Int) ≤ Int.tmod (Go.IntKind.wrap Go.IntKind.i64 cut) (↑x_3 : Int) ∧
 Int.tmod (Go.IntKind.wrap Go.IntKind.i64 cut) (↑x_3 : Int) ≤ (↑x_4 : Int)) ∧ Go.Sx.CallsV Go.Proofs.Try.prog (13 : Nat) #[Go.Value.slice (Go.Sx.cutAt x_2 x_4 (0 : Nat) (1 : Nat)) (Int.toNat (Int.tmod
 (Go.IntKind.wrap Go.IntKind.i64 cut) (↑x_3 : Int)) - (0 : Nat)) (x_4 - (0 : Nat)), Go.Value.int Go.IntKind.i64 (0 : Int), Go.Value.int Go.IntKind.i64 (Go.IntKind.wrap Go.IntKind.i64 ((↑l_n : Int) - (1
 : Int))), Go.Value.int Go.IntKind.i64 (80 : Int)] w' fun (v : Go.Value) (w' : Go.World) => ∃ (x : Option Go.Addr), ∃ (x_14 : Nat), ∃ (x_15 : Nat), ∃ (x_16 : Int), ∃ (x_17 : Int), v = Go.Value.tuple
 #[Go.Value.slice x x_14 x_15, Go.Value.int Go.IntKind.i64 x_16, Go.Value.int Go.IntKind.i64 x_17] ∧ ∃ (J : Go.World → Prop), (∀ (w : Go.World), J w → bif Decidable.decide (x_13 = (11 : Int)) then
 Go.Sx.CallsV Go.Proofs.Try.prog (14 : Nat) #[] w fun (v : Go.Value) (w' : Go.World) => ∃ (x : Bool), v = Go.Value.bool x ∧ K (Go.Value.bool x) w' else K (Go.Value.bool Bool.false) w) ∧ bif
 Decidable.decide ((0 : Int) < Int.tmod (Go.IntKind.wrap Go.IntKind.i64 cut) (↑x_3 : Int)) then bif !Decidable.decide (x_17 = (3 : Int)) then K (Go.Value.bool Bool.false) w' else bif Decidable.decide
 (Int.tmod (Go.IntKind.wrap Go.IntKind.i64 cut) (↑x_3 : Int) = (0 : Int)) then bif !Decidable.decide (x_17 = (11 : Int)) then K (Go.Value.bool Bool.false) w' else J w' else J w' else bif
 Decidable.decide (Int.tmod (Go.IntKind.wrap Go.IntKind.i64 cut) (↑x_3 : Int) = (0 : Int)) then bif !Decidable.decide (x_17 = (11 : Int)) then K (Go.Value.bool Bool.false) w' else J w' else J w') ∧ bif
 !Decidable.decide (Decidable.decide (x_9 = (0 : Int)) = Bool.false) then K (Go.Value.bool Bool.false) w' else bif !Decidable.decide (x_9 = (3 : Int)) then K (Go.Value.bool Bool.false) w' else J w'
theorem cardindexlaw01_BytesLimits.eq (l_A : Option Addr) (l_n : Nat) (l_c : Nat) (many : Int) (most : Int) (cut : Int) (w : World) (K : Value → World → Prop) : cardindexlaw01_BytesLimits.W l_A l_n l_c many most cut w K = fnW Try.prog Try.f9 (.seq .auto (.seq .auto (.seq .auto (.seq (.seq .auto (.block (.loop [(9, .one (.int .i64)), (30, .one (.int .i64))] .auto))) (.seq .auto (.seq .auto (.seq .auto (.join [] .auto (.seq .auto (.seq .auto (.seq .auto (.seq .auto (.join [] .auto .auto))))))))))))) [.slice l_A l_n l_c, .int .i64 many, .int .i64 most, .int .u16 cut] w K := by kernel_rfl
theorem cardindexlaw01_BytesLimits.calls (ok : Okay Try.prog) {l_A : Option Addr} {l_n : Nat} {l_c : Nat} {many : Int} {most : Int} {cut : Int} {w : World} {K : Value → World → Prop} (h : cardindexlaw01_BytesLimits.W l_A l_n l_c many most cut w K) : CallsV Try.prog 9 #[.slice l_A l_n l_c, .int .i64 many, .int .i64 most, .int .u16 cut] w K :=
  fnW_calls ok Try.func9 (an := (.seq .auto (.seq .auto (.seq .auto (.seq (.seq .auto (.block (.loop [(9, .one (.int .i64)), (30, .one (.int .i64))] .auto))) (.seq .auto (.seq .auto (.seq .auto (.join [] .auto (.seq .auto (.seq .auto (.seq .auto (.seq .auto (.join [] .auto .auto)))))))))))))) (args := [.slice l_A l_n l_c, .int .i64 many, .int .i64 most, .int .u16 cut]) (by rw [← cardindexlaw01_BytesLimits.eq]; exact h)
end Go.Proofs.Ytbpcfkahnhlahaa
