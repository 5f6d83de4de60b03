/- The preconditions of Go functions, printed by a program of this workplace (nests.py); each is proved to be the engine's own. -/
import Derived.Test.YtakmlaliglmnmaaProg
import Derived.Test.YtakmlaliglmnmaaSxWp
set_option linter.unusedVariables false
set_option maxRecDepth 100000
namespace Go.Proofs.Ytakmlaliglmnmaa
open Go Go.Sx
noncomputable def strings_Repeat.W : ByteArray → Int → World → (Value → World → Prop) → Prop := fun (s : ByteArray) (count : Int) (w : Go.World) (K : Go.Value → Go.World → Prop) => bif Decidable.decide
 (count = (0 : Int)) then K (Go.Value.string (ByteArray.mk #[])) w else bif Decidable.decide (count = (1 : Int)) then K (Go.Value.string s) w else ∃ (J : Go.World → Prop), (∀ (w : Go.World), J w →
 Go.Sx.CallsV Go.Proofs.Try.prog (51 : Nat) #[Go.Value.int Go.IntKind.u64 (Go.IntKind.wrap Go.IntKind.u64 (↑(ByteArray.size s) : Int)), Go.Value.int Go.IntKind.u64 (Go.IntKind.wrap Go.IntKind.u64
 count)] w fun (v : Go.Value) (w' : Go.World) => ∃ (x : Int), ∃ (x_1 : Int), v = Go.Value.tuple #[Go.Value.int Go.IntKind.u64 x, Go.Value.int Go.IntKind.u64 x_1] ∧ ∃ (J : Go.World → Prop), (∀ (w :
 Go.World), J w → bif Decidable.decide ((↑(ByteArray.size s) : Int) = (0 : Int)) then K (Go.Value.string (ByteArray.mk #[])) w else ∃ (J : Go.World → Prop), (∀ (w : Go.World), J w → ∃ (J : Int →
 Go.World → Prop), (∀ (x : Int) (w : Go.World), J x w → ∀ (g : Nat) (w' : Go.World), Go.Sx.Fresh w g w' [Go.Value.pointer Option.none, Go.Value.slice Option.none (0 : Nat) (0 : Nat)] (95 : Nat) →
 Go.Sx.CallsV Go.Proofs.Try.prog (53 : Nat) #[Go.Value.pointer (Option.some (Go.Addr.mk g (0 : Nat) Option.none)), Go.Value.int Go.IntKind.i64 (Go.IntKind.wrap Go.IntKind.i64 x_1)] w' fun (v : Go.Value)
 (w' : Go.World) => v = Go.Value.tuple #[] ∧ Go.Sx.CallsV Go.Proofs.Try.prog (54 : Nat) #[Go.Value.pointer (Option.some (Go.Addr.mk g (0 : Nat) Option.none)), Go.Value.string s] w' fun (v : Go.Value)
 (w' : Go.World) => ∃ (x_2 : Int), ∃ (x_3 : Go.Value), v = Go.Value.tuple #[Go.Value.int Go.IntKind.i64 x_2, x_3] ∧ ∃ (I : Go.World → Prop), ∃ (μ : Go.World → Nat), I w' ∧ ∀ (w : Go.World), I w →
 Go.Sx.CallsV Go.Proofs.Try.prog (55 : Nat) #[Go.Value.pointer (Option.some (Go.Addr.mk g (0 : Nat) Option.none))] w fun (v : Go.Value) (w' : Go.World) => ∃ (x_4 : Int), v = Go.Value.int Go.IntKind.i64
 x_4 ∧ bif Decidable.decide (x_4 < Go.IntKind.wrap Go.IntKind.i64 x_1) then Go.Sx.CallsV Go.Proofs.Try.prog (55 : Nat) #[Go.Value.pointer (Option.some (Go.Addr.mk g (0 : Nat) Option.none))] w' fun (v :
 Go.Value) (w' : Go.World) => ∃ (x_5 : Int), v = Go.Value.int Go.IntKind.i64 x_5 ∧ Go.Sx.CallsV Go.Proofs.Try.prog (55 : Nat) #[Go.Value.pointer (Option.some (Go.Addr.mk g (0 : Nat) Option.none))] w'
 fun (v : Go.Value) (w' : Go.World) => ∃ (x_6 : Int), v = Go.Value.int Go.IntKind.i64 x_6 ∧ Go.Sx.CallsV Go.Proofs.Try.prog (56 : Nat) #[Go.Value.pointer (Option.some (Go.Addr.mk g (0 : Nat)
 Option.none))] w' fun (v : Go.Value) (w' : Go.World) => ∃ (x_7 : ByteArray), v = Go.Value.string x_7 ∧ (((0 : Int) ≤ if x < if x_6 < Go.IntKind.wrap Go.IntKind.i64 (Go.IntKind.wrap Go.IntKind.i64 x_1 -
 x_5) then x_6 else Go.IntKind.wrap Go.IntKind.i64 (Go.IntKind.wrap Go.IntKind.i64 x_1 - x_5) then x else if x_6 < Go.IntKind.wrap Go.IntKind.i64 (Go.IntKind.wrap Go.IntKind.i64 x_1 - x_5) then x_6 else
 Go.IntKind.wrap Go.IntKind.i64 (Go.IntKind.wrap Go.IntKind.i64 x_1 - x_5)) ∧ (if x < if x_6 < Go.IntKind.wrap Go.IntKind.i64 (Go.IntKind.wrap Go.IntKind.i64 x_1 - x_5) then x_6 else Go.IntKind.wrap
 Go.IntKind.i64 (Go.IntKind.wrap Go.IntKind.i64 x_1 - x_5) then x else if x_6 < Go.IntKind.wrap Go.IntKind.i64 (Go.IntKind.wrap Go.IntKind.i64 x_1 - x_5) then x_6 else Go.IntKind.wrap Go.IntKind.i64
 (Go.IntKind.wrap Go.IntKind.i64 x_1 - x_5)) ≤ (↑(ByteArray.size x_7) : Int)) ∧ Go.Sx.CallsV Go.Proofs.Try.prog (54 : Nat) #[Go.Value.pointer (Option.some (Go.Addr.mk g (0 : Nat) Option.none)),
 Go.Value.string (ByteArray.extract x_7 (0 : Nat) (Int.toNat (if x < if x_6 < Go.IntKind.wrap Go.IntKind.i64 (Go.IntKind.wrap Go.IntKind.i64 x_1 - x_5) then x_6 else Go.IntKind.wrap Go.IntKind.i64
 (Go.IntKind.wrap Go.IntKind.i64 x_1 - x_5) then x else if x_6 < Go.IntKind.wrap Go.IntKind.i64 (Go.IntKind.wrap Go.IntKind.i64 x_1 - x_5) then x_6 else Go.IntKind.wrap Go.IntKind.i64 (Go.IntKind.wrap
 Go.IntKind.i64 x_1 - x_5))))] w' fun (v : Go.Value) (w' : Go.World) => ∃ (x : Int), ∃ (x_8 : Go.Value), v = Go.Value.tuple #[Go.Value.int Go.IntKind.i64 x, x_8] ∧ I w' ∧ μ w' < μ w else Go.Sx.CallsV
 Go.Proofs.Try.prog (56 : Nat) #[Go.Value.pointer (Option.some (Go.Addr.mk g (0 : Nat) Option.none))] w' fun (v : Go.Value) (w' : Go.World) => ∃ (x : ByteArray), v = Go.Value.string x ∧ K
 (Go.Value.string x) w') ∧ bif Decidable.decide ((8192 : Int) < Go.IntKind.wrap Go.IntKind.i64 x_1) then (↑(ByteArray.size s) : Int) ≠ (0 : Int) ∧ bif Decidable.decide (Go.IntKind.wrap Go.IntKind.i64
 (Go.IntKind.wrap Go.IntKind.i64 (Int.tdiv (8192 : Int) (↑(ByteArray.size s) : Int)) * (↑(ByteArray.size s) : Int)) = (0 : Int)) then J (↑(ByteArray.size s) : Int) w else J (Go.IntKind.wrap
 Go.IntKind.i64 (Go.IntKind.wrap Go.IntKind.i64 (Int.tdiv (8192 : Int) (↑(ByteArray.size s) : Int)) * (↑(ByteArray.size s) : Int))) w else J (Go.IntKind.wrap Go.IntKind.i64 x_1) w) ∧ ∃ (b : UInt8), ((0
 : Int) ≤ (0 : Int) ∧ s[Int.toNat (0 : Int)]? = Option.some b) ∧ ∃ (J_1 : Bool → Go.World → Prop), (∀ (x : Bool) (w : Go.World), J_1 x w → bif x then bif Decidable.decide (Go.IntKind.wrap Go.IntKind.i64
 x_1 ≤ (128 : Int)) then Go.Sx.CallsV Go.Proofs.Try.prog (52 : Nat) #[Go.Value.string (ByteArray.mk #[(32 : UInt8), (32 : UInt8), (32 : UInt8), (32 : UInt8), (32 : UInt8), (32 : UInt8), (32 : UInt8),
 (32 : UInt8), (32 : UInt8), (32 : UInt8), (32 : UInt8), (32 : UInt8), (32 : UInt8), (32 : UInt8), (32 : UInt8), (32 : UInt8), (32 : UInt8), (32 : UInt8), (32 : UInt8), (32 : UInt8), (32 : UInt8), (32 :
 UInt8), (32 : UInt8), (32 : UInt8), (32 : UInt8), (32 : UInt8), (32 : UInt8), (32 : UInt8), (32 : UInt8), (32 : UInt8), (32 : UInt8), (32 : UInt8), (32 : UInt8), (32 : UInt8), (32 : UInt8), (32 :
 UInt8), (32 : UInt8), (32 : UInt8), (32 : UInt8), (32 : UInt8), (32 : UInt8), (32 : UInt8), (32 : UInt8), (32 : UInt8), (32 : UInt8), (32 : UInt8), (32 : UInt8), (32 : UInt8), (32 : UInt8), (32 :
 UInt8), (32 : UInt8), (32 : UInt8), (32 : UInt8), (32 : UInt8), (32 : UInt8), (32 : UInt8), (32 : UInt8), (32 : UInt8), (32 : UInt8), (32 : UInt8), (32 : UInt8), (32 : UInt8), (32 : UInt8), (32 :
 UInt8), (32 : UInt8), (32 : UInt8), (32 : UInt8), (32 : UInt8), (32 : UInt8), (32 : UInt8), (32 : UInt8), (32 : UInt8), (32 : UInt8), (32 : UInt8), (32 : UInt8), (32 : UInt8), (32 : UInt8), (32 :
 UInt8), (32 : UInt8), (32 : UInt8), (32 : UInt8), (32 : UInt8), (32 : UInt8), (32 : UInt8), (32 : UInt8), (32 : UInt8), (32 : UInt8), (32 : UInt8), (32 : UInt8), (32 : UInt8), (32 : UInt8), (32 :
 UInt8), (32 : UInt8), (32 : UInt8), (32 : UInt8), (32 : UInt8), (32 : UInt8), (32 : UInt8), (32 : UInt8), (32 : UInt8), (32 : UInt8), (32 : UInt8), (32 : UInt8), (32 : UInt8), (32 : UInt8), (32 :
 UInt8), (32 : UInt8), (32 : UInt8), (32 : UInt8), (32 : UInt8), (32 : UInt8), (32 : UInt8), (32 : UInt8), (32 : UInt8), (32 : UInt8), (32 : UInt8), (32 : UInt8), (32 : UInt8), (32 : UInt8), (32 :
 UInt8), (32 : UInt8), (32 : UInt8), (32 : UInt8), (32 : UInt8), (32 : UInt8), (32 : UInt8), (32 : UInt8), (32 : UInt8)]), Go.Value.string s] w fun (v : Go.Value) (w' : Go.World) => ∃ (x : Bool), v =
 Go.Value.bool x ∧ bif x then ((0 : Int) ≤ Go.IntKind.wrap Go.IntKind.i64 x_1 ∧ Go.IntKind.wrap Go.IntKind.i64 x_1 ≤ (↑(ByteArray.size (ByteArray.mk #[(32 : UInt8), (32 : UInt8), (32 : UInt8), (32 :
 UInt8), (32 : UInt8), (32 : UInt8), (32 : UInt8), (32 : UInt8), (32 : UInt8), (32 : UInt8), (32 : UInt8), (32 : UInt8), (32 : UInt8), (32 : UInt8), (32 : UInt8), (32 : UInt8), (32 : UInt8), (32 :
 UInt8), (32 : UInt8), (32 : UInt8), (32 : UInt8), (32 : UInt8), (32 : UInt8), (32 : UInt8), (32 : UInt8), (32 : UInt8), (32 : UInt8), (32 : UInt8), (32 : UInt8), (32 : UInt8), (32 : UInt8), (32 :
 UInt8), (32 : UInt8), (32 : UInt8), (32 : UInt8), (32 : UInt8), (32 : UInt8), (32 : UInt8), (32 : UInt8), (32 : UInt8), (32 : UInt8), (32 : UInt8), (32 : UInt8), (32 : UInt8), (32 : UInt8), (32 :
 UInt8), (32 : UInt8), (32 : UInt8), (32 : UInt8), (32 : UInt8), (32 : UInt8), (32 : UInt8), (32 : UInt8), (32 : UInt8), (32 : UInt8), (32 : UInt8), (32 : UInt8), (32 : UInt8), (32 : UInt8), (32 :
 UInt8), (32 : UInt8), (32 : UInt8), (32 : UInt8), (32 : UInt8), (32 : UInt8), (32 : UInt8), (32 : UInt8), (32 : UInt8), (32 : UInt8), (32 : UInt8), (32 : UInt8), (32 : UInt8), (32 : UInt8), (32 :
 UInt8), (32 : UInt8), (32 : UInt8), (32 : UInt8), (32 : UInt8), (32 : UInt8), (32 : UInt8), (32 : UInt8), (32 : UInt8), (32 : UInt8), (32 : UInt8), (32 : UInt8), (32 : UInt8), (32 : UInt8), (32 :
 UInt8), (32 : UInt8), (32 : UInt8), (32 : UInt8), (32 : UInt8), (32 : UInt8), (32 : UInt8), (32 : UInt8), (32 : UInt8), (32 : UInt8), (32 : UInt8), (32 : UInt8), (32 : UInt8), (32 : UInt8), (32 :
 UInt8), (32 : UInt8), (32 : UInt8), (32 : UInt8), (32 : UInt8), (32 : UInt8), (32 : UInt8), (32 : UInt8), (32 : UInt8), (32 : UInt8), (32 : UInt8), (32 : UInt8), (32 : UInt8), (32 : UInt8), (32 :
 UInt8), (32 : UInt8), (32 : UInt8), (32 : UInt8), (32 : UInt8), (32 : UInt8), (32 : UInt8), (32 : UInt8), (32 : UInt8), (32 : UInt8), (32 : UInt8), (32 : UInt8), (32 : UInt8)])) : Int)) ∧ K
 (Go.Value.string (ByteArray.extract (ByteArray.mk #[(32 : UInt8), (32 : UInt8), (32 : UInt8), (32 : UInt8), (32 : UInt8), (32 : UInt8), (32 : UInt8), (32 : UInt8), (32 : UInt8), (32 : UInt8), (32 :
 UInt8), (32 : UInt8), (32 : UInt8), (32 : UInt8), (32 : UInt8), (32 : UInt8), (32 : UInt8), (32 : UInt8), (32 : UInt8), (32 : UInt8), (32 : UInt8), (32 : UInt8), (32 : UInt8), (32 : UInt8), (32 :
 UInt8), (32 : UInt8), (32 : UInt8), (32 : UInt8), (32 : UInt8), (32 : UInt8), (32 : UInt8), (32 : UInt8), (32 : UInt8), (32 : UInt8), (32 : UInt8), (32 : UInt8), (32 : UInt8), (32 : UInt8), (32 :
 UInt8), (32 : UInt8), (32 : UInt8), (32 : UInt8), (32 : UInt8), (32 : UInt8), (32 : UInt8), (32 : UInt8), (32 : UInt8), (32 : UInt8), (32 : UInt8), (32 : UInt8), (32 : UInt8), (32 : UInt8), (32 :
 UInt8), (32 : UInt8), (32 : UInt8), (32 : UInt8), (32 : UInt8), (32 : UInt8), (32 : UInt8), (32 : UInt8), (32 : UInt8), (32 : UInt8), (32 : UInt8), (32 : UInt8), (32 : UInt8), (32 : UInt8), (32 :
 UInt8), (32 : UInt8), (32 : UInt8), (32 : UInt8), (32 : UInt8), (32 : UInt8), (32 : UInt8), (32 : UInt8), (32 : UInt8), (32 : UInt8), (32 : UInt8), (32 : UInt8), (32 : UInt8), (32 : UInt8), (32 :
 UInt8), (32 : UInt8), (32 : UInt8), (32 : UInt8), (32 : UInt8), (32 : UInt8), (32 : UInt8), (32 : UInt8), (32 : UInt8), (32 : UInt8), (32 : UInt8), (32 : UInt8), (32 : UInt8), (32 : UInt8), (32 :
 UInt8), (32 : UInt8), (32 : UInt8), (32 : UInt8), (32 : UInt8), (32 : UInt8), (32 : UInt8), (32 : UInt8), (32 : UInt8), (32 : UInt8), (32 : UInt8), (32 : UInt8), (32 : UInt8), (32 : UInt8), (32 :
 UInt8), (32 : UInt8), (32 : UInt8), (32 : UInt8), (32 : UInt8), (32 : UInt8), (32 : UInt8), (32 : UInt8), (32 : UInt8), (32 : UInt8), (32 : UInt8), (32 : UInt8), (32 : UInt8), (32 : UInt8), (32 :
 UInt8), (32 : UInt8), (32 : UInt8), (32 : UInt8), (32 : UInt8), (32 : UInt8)]) (0 : Nat) (Int.toNat (Go.IntKind.wrap Go.IntKind.i64 x_1)))) w' else bif Decidable.decide (Go.IntKind.wrap Go.IntKind.i64
 x_1 ≤ (128 : Int)) then Go.Sx.CallsV Go.Proofs.Try.prog (52 : Nat) #[Go.Value.string (ByteArray.mk #[(45 : UInt8), (45 : UInt8), (45 : UInt8), (45 : UInt8), (45 : UInt8), (45 : UInt8), (45 : UInt8),
 (45 : UInt8), (45 : UInt8), (45 : UInt8), (45 : UInt8), (45 : UInt8), (45 : UInt8), (45 : UInt8), (45 : UInt8), (45 : UInt8), (45 : UInt8), (45 : UInt8), (45 : UInt8), (45 : UInt8), (45 : UInt8), (45 :
 UInt8), (45 : UInt8), (45 : UInt8), (45 : UInt8), (45 : UInt8), (45 : UInt8), (45 : UInt8), (45 : UInt8), (45 : UInt8), (45 : UInt8), (45 : UInt8), (45 : UInt8), (45 : UInt8), (45 : UInt8), (45 :
 UInt8), (45 : UInt8), (45 : UInt8), (45 : UInt8), (45 : UInt8), (45 : UInt8), (45 : UInt8), (45 : UInt8), (45 : UInt8), (45 : UInt8), (45 : UInt8), (45 : UInt8), (45 : UInt8), (45 : UInt8), (45 :
 UInt8), (45 : UInt8), (45 : UInt8), (45 : UInt8), (45 : UInt8), (45 : UInt8), (45 : UInt8), (45 : UInt8), (45 : UInt8), (45 : UInt8), (45 : UInt8), (45 : UInt8), (45 : UInt8), (45 : UInt8), (45 :
 UInt8), (45 : UInt8), (45 : UInt8), (45 : UInt8), (45 : UInt8), (45 : UInt8), (45 : UInt8), (45 : UInt8), (45 : UInt8), (45 : UInt8), (45 : UInt8), (45 : UInt8), (45 : UInt8), (45 : UInt8), (45 :
 UInt8), (45 : UInt8), (45 : UInt8), (45 : UInt8), (45 : UInt8), (45 : UInt8), (45 : UInt8), (45 : UInt8), (45 : UInt8), (45 : UInt8), (45 : UInt8), (45 : UInt8), (45 : UInt8), (45 : UInt8), (45 :
 UInt8), (45 : UInt8), (45 : UInt8), (45 : UInt8), (45 : UInt8), (45 : UInt8), (45 : UInt8), (45 : UInt8), (45 : UInt8), (45 : UInt8), (45 : UInt8), (45 : UInt8), (45 : UInt8), (45 : UInt8), (45 :
 UInt8), (45 : UInt8), (45 : UInt8), (45 : UInt8), (45 : UInt8), (45 : UInt8), (45 : UInt8), (45 : UInt8), (45 : UInt8), (45 : UInt8), (45 : UInt8), (45 : UInt8), (45 : UInt8), (45 : UInt8), (45 :
 UInt8), (45 : UInt8), (45 : UInt8), (45 : UInt8), (45 : UInt8), (45 : UInt8), (45 : UInt8), (45 : UInt8), (45 : UInt8)]), Go.Value.string s] w' fun (v : Go.Value) (w' : Go.World) => ∃ (x : Bool), v =
 Go.Value.bool x ∧ bif x then ((0 : Int) ≤ Go.IntKind.wrap Go.IntKind.i64 x_1 ∧ Go.IntKind.wrap Go.IntKind.i64 x_1 ≤ (↑(ByteArray.size (ByteArray.mk #[(45 : UInt8), (45 : UInt8), (45 : UInt8), (45 :
 UInt8), (45 : UInt8), (45 : UInt8), (45 : UInt8), (45 : UInt8), (45 : UInt8), (45 : UInt8), (45 : UInt8), (45 : UInt8), (45 : UInt8), (45 : UInt8), (45 : UInt8), (45 : UInt8), (45 : UInt8), (45 :
 UInt8), (45 : UInt8), (45 : UInt8), (45 : UInt8), (45 : UInt8), (45 : UInt8), (45 : UInt8), (45 : UInt8), (45 : UInt8), (45 : UInt8), (45 : UInt8), (45 : UInt8), (45 : UInt8), (45 : UInt8), (45 :
 UInt8), (45 : UInt8), (45 : UInt8), (45 : UInt8), (45 : UInt8), (45 : UInt8), (45 : UInt8), (45 : UInt8), (45 : UInt8), (45 : UInt8), (45 : UInt8), (45 : UInt8), (45 : UInt8), (45 : UInt8), (45 :
 UInt8), (45 : UInt8), (45 : UInt8), (45 : UInt8), (45 : UInt8), (45 : UInt8), (45 : UInt8), (45 : UInt8), (45 : UInt8), (45 : UInt8), (45 : UInt8), (45 : UInt8), (45 : UInt8), (45 : UInt8), (45 :
 UInt8), (45 : UInt8), (45 : UInt8), (45 : UInt8), (45 : UInt8), (45 : UInt8), (45 : UInt8), (45 : UInt8), (45 : UInt8), (45 : UInt8), (45 : UInt8), (45 : UInt8), (45 : UInt8), (45 : UInt8), (45 :
 UInt8), (45 : UInt8), (45 : UInt8), (45 : UInt8), (45 : UInt8), (45 : UInt8), (45 : UInt8), (45 : UInt8), (45 : UInt8), (45 : UInt8), (45 : UInt8), (45 : UInt8), (45 : UInt8), (45 : UInt8), (45 :
 UInt8), (45 : UInt8), (45 : UInt8), (45 : UInt8), (45 : UInt8), (45 : UInt8), (45 : UInt8), (45 : UInt8), (45 : UInt8), (45 : UInt8), (45 : UInt8), (45 : UInt8), (45 : UInt8), (45 : UInt8), (45 :
 UInt8), (45 : UInt8), (45 : UInt8), (45 : UInt8), (45 : UInt8), (45 : UInt8), (45 : UInt8), (45 : UInt8), (45 : UInt8), (45 : UInt8), (45 : UInt8), (45 : UInt8), (45 : UInt8), (45 : UInt8), (45 :
 UInt8), (45 : UInt8), (45 : UInt8), (45 : UInt8), (45 : UInt8), (45 : UInt8), (45 : UInt8), (45 : UInt8), (45 : UInt8), (45 : UInt8), (45 : UInt8), (45 : UInt8), (45 : UInt8)])) : Int)) ∧ K
 (Go.Value.string (ByteArray.extract (ByteArray.mk #[(45 : UInt8), (45 : UInt8), (45 : UInt8), (45 : UInt8), (45 : UInt8), (45 : UInt8), (45 : UInt8), (45 : UInt8), (45 : UInt8), (45 : UInt8), (45 :
 UInt8), (45 : UInt8), (45 : UInt8), (45 : UInt8), (45 : UInt8), (45 : UInt8), (45 : UInt8), (45 : UInt8), (45 : UInt8), (45 : UInt8), (45 : UInt8), (45 : UInt8), (45 : UInt8), (45 : UInt8), (45 :
 UInt8), (45 : UInt8), (45 : UInt8), (45 : UInt8), (45 : UInt8), (45 : UInt8), (45 : UInt8), (45 : UInt8), (45 : UInt8), (45 : UInt8), (45 : UInt8), (45 : UInt8), (45 : UInt8), (45 : UInt8), (45 :
 UInt8), (45 : UInt8), (45 : UInt8), (45 : UInt8), (45 : UInt8), (45 : UInt8), (45 : UInt8), (45 : UInt8), (45 : UInt8), (45 : UInt8), (45 : UInt8), (45 : UInt8), (45 : UInt8), (45 : UInt8), (45 :
 UInt8), (45 : UInt8), (45 : UInt8), (45 : UInt8), (45 : UInt8), (45 : UInt8), (45 : UInt8), (45 : UInt8), (45 : UInt8), (45 : UInt8), (45 : UInt8), (45 : UInt8), (45 : UInt8), (45 : UInt8), (45 :
 UInt8), (45 : UInt8), (45 : UInt8), (45 : UInt8), (45 : UInt8), (45 : UInt8), (45 : UInt8), (45 : UInt8), (45 : UInt8), (45 : UInt8), (45 : UInt8), (45 : UInt8), (45 : UInt8), (45 : UInt8), (45 :
 UInt8), (45 : UInt8), (45 : UInt8), (45 : UInt8), (45 : UInt8), (45 : UInt8), (45 : UInt8), (45 : UInt8), (45 : UInt8), (45 : UInt8), (45 : UInt8), (45 : UInt8), (45 : UInt8), (45 : UInt8), (45 :
 UInt8), (45 : UInt8), (45 : UInt8), (45 : UInt8), (45 : UInt8), (45 : UInt8), (45 : UInt8), (45 : UInt8), (45 : UInt8), (45 : UInt8), (45 : UInt8), (45 : UInt8), (45 : UInt8), (45 : UInt8), (45 :
 UInt8), (45 : UInt8), (45 : UInt8), (45 : UInt8), (45 : UInt8), (45 : UInt8), (45 : UInt8), (45 : UInt8), (45 : UInt8), (45 : UInt8), (45 : UInt8), (45 : UInt8), (45 : UInt8), (45 : UInt8), (45 :
 UInt8), (45 : UInt8), (45 : UInt8), (45 : UInt8), (45 : UInt8), (45 : UInt8)]) (0 : Nat) (Int.toNat (Go.IntKind.wrap Go.IntKind.i64 x_1)))) w' else bif Decidable.decide (Go.IntKind.wrap Go.IntKind.i64
 x_1 ≤ (64 : Int)) then Go.Sx.CallsV Go.Proofs.Try.prog (52 : Nat) #[Go.Value.string (ByteArray.mk #[(48 : UInt8), (48 : UInt8), (48 : UInt8), (48 : UInt8), (48 : UInt8), (48 : UInt8), (48 : UInt8), (48
 : UInt8), (48 : UInt8), (48 : UInt8), (48 : UInt8), (48 : UInt8), (48 : UInt8), (48 : UInt8), (48 : UInt8), (48 : UInt8), (48 : UInt8), (48 : UInt8), (48 : UInt8), (48 : UInt8), (48 : UInt8), (48 :
 UInt8), (48 : UInt8), (48 : UInt8), (48 : UInt8), (48 : UInt8), (48 : UInt8), (48 : UInt8), (48 : UInt8), (48 : UInt8), (48 : UInt8), (48 : UInt8), (48 : UInt8), (48 : UInt8), (48 : UInt8), (48 :
 UInt8), (48 : UInt8), (48 : UInt8), (48 : UInt8), (48 : UInt8), (48 : UInt8), (48 : UInt8), (48 : UInt8), (48 : UInt8), (48 : UInt8), (48 : UInt8), (48 : UInt8), (48 : UInt8), (48 : UInt8), (48 :
 UInt8), (48 : UInt8), (48 : UInt8), (48 : UInt8), (48 : UInt8), (48 : UInt8), (48 : UInt8), (48 : UInt8), (48 : UInt8), (48 : UInt8), (48 : UInt8), (48 : UInt8), (48 : UInt8), (48 : UInt8), (48 :
 UInt8)]), Go.Value.string s] w' fun (v : Go.Value) (w' : Go.World) => ∃ (x : Bool), v = Go.Value.bool x ∧ bif x then ((0 : Int) ≤ Go.IntKind.wrap Go.IntKind.i64 x_1 ∧ Go.IntKind.wrap Go.IntKind.i64 x_1
 ≤ (↑(ByteArray.size (ByteArray.mk #[(48 : UInt8), (48 : UInt8), (48 : UInt8), (48 : UInt8), (48 : UInt8), (48 : UInt8), (48 : UInt8), (48 : UInt8), (48 : UInt8), (48 : UInt8), (48 : UInt8), (48 :
 UInt8), (48 : UInt8), (48 : UInt8), (48 : UInt8), (48 : UInt8), (48 : UInt8), (48 : UInt8), (48 : UInt8), (48 : UInt8), (48 : UInt8), (48 : UInt8), (48 : UInt8), (48 : UInt8), (48 : UInt8), (48 :
 UInt8), (48 : UInt8), (48 : UInt8), (48 : UInt8), (48 : UInt8), (48 : UInt8), (48 : UInt8), (48 : UInt8), (48 : UInt8), (48 : UInt8), (48 : UInt8), (48 : UInt8), (48 : UInt8), (48 : UInt8), (48 :
 UInt8), (48 : UInt8), (48 : UInt8), (48 : UInt8), (48 : UInt8), (48 : UInt8), (48 : UInt8), (48 : UInt8), (48 : UInt8), (48 : UInt8), (48 : UInt8), (48 : UInt8), (48 : UInt8), (48 : UInt8), (48 :
 UInt8), (48 : UInt8), (48 : UInt8), (48 : UInt8), (48 : UInt8), (48 : UInt8), (48 : UInt8), (48 : UInt8), (48 : UInt8), (48 : UInt8), (48 : UInt8)])) : Int)) ∧ K (Go.Value.string (ByteArray.extract
 (ByteArray.mk #[(48 : UInt8), (48 : UInt8), (48 : UInt8), (48 : UInt8), (48 : UInt8), (48 : UInt8), (48 : UInt8), (48 : UInt8), (48 : UInt8), (48 : UInt8), (48 : UInt8), (48 : UInt8), (48 : UInt8), (48
 : UInt8), (48 : UInt8), (48 : UInt8), (48 : UInt8), (48 : UInt8), (48 : UInt8), (48 : UInt8), (48 : UInt8), (48 : UInt8), (48 : UInt8), (48 : UInt8), (48 : UInt8), (48 : UInt8), (48 : UInt8), (48 :
 UInt8), (48 : UInt8), (48 : UInt8), (48 : UInt8), (48 : UInt8), (48 : UInt8), (48 : UInt8), (48 : UInt8), (48 : UInt8), (48 : UInt8), (48 : UInt8), (48 : UInt8), (48 : UInt8), (48 : UInt8), (48 :
 UInt8), (48 : UInt8), (48 : UInt8), (48 : UInt8), (48 : UInt8), (48 : UInt8), (48 : UInt8), (48 : UInt8), (48 : UInt8), (48 : UInt8), (48 : UInt8), (48 : UInt8), (48 : UInt8), (48 : UInt8), (48 :
 UInt8), (48 : UInt8), (48 : UInt8), (48 : UInt8), (48 : UInt8), (48 : UInt8), (48 : UInt8), (48 : UInt8), (48 : UInt8)]) (0 : Nat) (Int.toNat (Go.IntKind.wrap Go.IntKind.i64 x_1)))) w' else bif
 Decidable.decide (Go.IntKind.wrap Go.IntKind.i64 x_1 ≤ (128 : Int)) then Go.Sx.CallsV Go.Proofs.Try.prog (52 : Nat) #[Go.Value.string (ByteArray.mk #[(61 : UInt8), (61 : UInt8), (61 : UInt8), (61 :
 UInt8), (61 : UInt8), (61 : UInt8), (61 : UInt8), (61 : UInt8), (61 : UInt8), (61 : UInt8), (61 : UInt8), (61 : UInt8), (61 : UInt8), (61 : UInt8), (61 : UInt8), (61 : UInt8), (61 : UInt8), (61 :
 UInt8), (61 : UInt8), (61 : UInt8), (61 : UInt8), (61 : UInt8), (61 : UInt8), (61 : UInt8), (61 : UInt8), (61 : UInt8), (61 : UInt8), (61 : UInt8), (61 : UInt8), (61 : UInt8), (61 : UInt8), (61 :
 UInt8), (61 : UInt8), (61 : UInt8), (61 : UInt8), (61 : UInt8), (61 : UInt8), (61 : UInt8), (61 : UInt8), (61 : UInt8), (61 : UInt8), (61 : UInt8), (61 : UInt8), (61 : UInt8), (61 : UInt8), (61 :
 UInt8), (61 : UInt8), (61 : UInt8), (61 : UInt8), (61 : UInt8), (61 : UInt8), (61 : UInt8), (61 : UInt8), (61 : UInt8), (61 : UInt8), (61 : UInt8), (61 : UInt8), (61 : UInt8), (61 : UInt8), (61 :
 UInt8), (61 : UInt8), (61 : UInt8), (61 : UInt8), (61 : UInt8), (61 : UInt8), (61 : UInt8), (61 : UInt8), (61 : UInt8), (61 : UInt8), (61 : UInt8), (61 : UInt8), (61 : UInt8), (61 : UInt8), (61 :
 UInt8), (61 : UInt8), (61 : UInt8), (61 : UInt8), (61 : UInt8), (61 : UInt8), (61 : UInt8), (61 : UInt8), (61 : UInt8), (61 : UInt8), (61 : UInt8), (61 : UInt8), (61 : UInt8), (61 : UInt8), (61 :
 UInt8), (61 : UInt8), (61 : UInt8), (61 : UInt8), (61 : UInt8), (61 : UInt8), (61 : UInt8), (61 : UInt8), (61 : UInt8), (61 : UInt8), (61 : UInt8), (61 : UInt8), (61 : UInt8), (61 : UInt8), (61 :
 UInt8), (61 : UInt8), (61 : UInt8), (61 : UInt8), (61 : UInt8), (61 : UInt8), (61 : UInt8), (61 : UInt8), (61 : UInt8), (61 : UInt8), (61 : UInt8), (61 : UInt8), (61 : UInt8), (61 : UInt8), (61 :
 UInt8), (61 : UInt8), (61 : UInt8), (61 : UInt8), (61 : UInt8), (61 : UInt8), (61 : UInt8), (61 : UInt8), (61 : UInt8), (61 : UInt8), (61 : UInt8), (61 : UInt8), (61 : UInt8)]), Go.Value.string s] w'
 fun (v : Go.Value) (w' : Go.World) => ∃ (x : Bool), v = Go.Value.bool x ∧ bif x then ((0 : Int) ≤ Go.IntKind.wrap Go.IntKind.i64 x_1 ∧ Go.IntKind.wrap Go.IntKind.i64 x_1 ≤ (↑(ByteArray.size
 (ByteArray.mk #[(61 : UInt8), (61 : UInt8), (61 : UInt8), (61 : UInt8), (61 : UInt8), (61 : UInt8), (61 : UInt8), (61 : UInt8), (61 : UInt8), (61 : UInt8), (61 : UInt8), (61 : UInt8), (61 : UInt8), (61
 : UInt8), (61 : UInt8), (61 : UInt8), (61 : UInt8), (61 : UInt8), (61 : UInt8), (61 : UInt8), (61 : UInt8), (61 : UInt8), (61 : UInt8), (61 : UInt8), (61 : UInt8), (61 : UInt8), (61 : UInt8), (61 :
 UInt8), (61 : UInt8), (61 : UInt8), (61 : UInt8), (61 : UInt8), (61 : UInt8), (61 : UInt8), (61 : UInt8), (61 : UInt8), (61 : UInt8), (61 : UInt8), (61 : UInt8), (61 : UInt8), (61 : UInt8), (61 :
 UInt8), (61 : UInt8), (61 : UInt8), (61 : UInt8), (61 : UInt8), (61 : UInt8), (61 : UInt8), (61 : UInt8), (61 : UInt8), (61 : UInt8), (61 : UInt8), (61 : UInt8), (61 : UInt8), (61 : UInt8), (61 :
 UInt8), (61 : UInt8), (61 : UInt8), (61 : UInt8), (61 : UInt8), (61 : UInt8), (61 : UInt8), (61 : UInt8), (61 : UInt8), (61 : UInt8), (61 : UInt8), (61 : UInt8), (61 : UInt8), (61 : UInt8), (61 :
 UInt8), (61 : UInt8), (61 : UInt8), (61 : UInt8), (61 : UInt8), (61 : UInt8), (61 : UInt8), (61 : UInt8), (61 : UInt8), (61 : UInt8), (61 : UInt8), (61 : UInt8), (61 : UInt8), (61 : UInt8), (61 :
 UInt8), (61 : UInt8), (61 : UInt8), (61 : UInt8), (61 : UInt8), (61 : UInt8), (61 : UInt8), (61 : UInt8), (61 : UInt8), (61 : UInt8), (61 : UInt8), (61 : UInt8), (61 : UInt8), (61 : UInt8), (61 :
 UInt8), (61 : UInt8), (61 : UInt8), (61 : UInt8), (61 : UInt8), (61 : UInt8), (61 : UInt8), (61 : UInt8), (61 : UInt8), (61 : UInt8), (61 : UInt8), (61 : UInt8), (61 : UInt8), (61 : UInt8), (61 :
 UInt8), (61 : UInt8), (61 : UInt8), (61 : UInt8), (61 : UInt8), (61 : UInt8), (61 : UInt8), (61 : UInt8), (61 : UInt8), (61 : UInt8), (61 : UInt8), (61 : UInt8), (61 : UInt8), (61 : UInt8), (61 :
 UInt8), (61 : UInt8), (61 : UInt8)])) : Int)) ∧ K (Go.Value.string (ByteArray.extract (ByteArray.mk #[(61 : UInt8), (61 : UInt8), (61 : UInt8), (61 : UInt8), (61 : UInt8), (61 : UInt8), (61 : UInt8),
 (61 : UInt8), (61 : UInt8), (61 : UInt8), (61 : UInt8), (61 : UInt8), (61 : UInt8), (61 : UInt8), (61 : UInt8), (61 : UInt8), (61 : UInt8), (61 : UInt8), (61 : UInt8), (61 : UInt8), (61 : UInt8), (61 :
 UInt8), (61 : UInt8), (61 : UInt8), (61 : UInt8), (61 : UInt8), (61 : UInt8), (61 : UInt8), (61 : UInt8), (61 : UInt8), (61 : UInt8), (61 : UInt8), (61 : UInt8), (61 : UInt8), (61 : UInt8), (61 :
 UInt8), (61 : UInt8), (61 : UInt8), (61 : UInt8), (61 : UInt8), (61 : UInt8), (61 : UInt8), (61 : UInt8), (61 : UInt8), (61 : UInt8), (61 : UInt8), (61 : UInt8), (61 : UInt8), (61 : UInt8), (61 :
 UInt8), (61 : UInt8), (61 : UInt8), (61 : UInt8), (61 : UInt8), (61 : UInt8), (61 : UInt8), (61 : UInt8), (61 : UInt8), (61 : UInt8), (61 : UInt8), (61 : UInt8), (61 : UInt8), (61 : UInt8), (61 :
 UInt8), (61 : UInt8), (61 : UInt8), (61 : UInt8), (61 : UInt8), (61 : UInt8), (61 : UInt8), (61 : UInt8), (61 : UInt8), (61 : UInt8), (61 : UInt8), (61 : UInt8), (61 : UInt8), (61 : UInt8), (61 :
 UInt8), (61 : UInt8), (61 : UInt8), (61 : UInt8), (61 : UInt8), (61 : UInt8), (61 : UInt8), (61 : UInt8), (61 : UInt8), (61 : UInt8), (61 : UInt8), (61 : UInt8), (61 : UInt8), (61 : UInt8), (61 :
 UInt8), (61 : UInt8), (61 : UInt8), (61 : UInt8), (61 : UInt8), (61 : UInt8), (61 : UInt8), (61 : UInt8), (61 : UInt8), (61 : UInt8), (61 : UInt8), (61 : UInt8), (61 : UInt8), (61 : UInt8), (61 :
 UInt8), (61 : UInt8), (61 : UInt8), (61 : UInt8), (61 : UInt8), (61 : UInt8), (61 : UInt8), (61 : UInt8), (61 : UInt8), (61 : UInt8), (61 : UInt8), (61 : UInt8), (61 : UInt8), (61 : UInt8), (61 :
 UInt8), (61 : UInt8), (61 : UInt8), (61 : UInt8), (61 : UInt8), (61 : UInt8), (61 : UInt8), (61 : UInt8), (61 : UInt8)]) (0 : Nat) (Int.toNat (Go.IntKind.wrap Go.IntKind.i64 x_1)))) w' else bif
 Decidable.decide (Go.IntKind.wrap Go.IntKind.i64 x_1 ≤ (64 : Int)) then Go.Sx.CallsV Go.Proofs.Try.prog (52 : Nat) #[Go.Value.string (ByteArray.mk #[(9 : UInt8), (9 : UInt8), (9 : UInt8), (9 : UInt8),
 (9 : UInt8), (9 : UInt8), (9 : UInt8), (9 : UInt8), (9 : UInt8), (9 : UInt8), (9 : UInt8), (9 : UInt8), (9 : UInt8), (9 : UInt8), (9 : UInt8), (9 : UInt8), (9 : UInt8), (9 : UInt8), (9 : UInt8), (9 :
 UInt8), (9 : UInt8), (9 : UInt8), (9 : UInt8), (9 : UInt8), (9 : UInt8), (9 : UInt8), (9 : UInt8), (9 : UInt8), (9 : UInt8), (9 : UInt8), (9 : UInt8), (9 : UInt8), (9 : UInt8), (9 : UInt8), (9 :
 UInt8), (9 : UInt8), (9 : UInt8), (9 : UInt8), (9 : UInt8), (9 : UInt8), (9 : UInt8), (9 : UInt8), (9 : UInt8), (9 : UInt8), (9 : UInt8), (9 : UInt8), (9 : UInt8), (9 : UInt8), (9 : UInt8), (9 :
 UInt8), (9 : UInt8), (9 : UInt8), (9 : UInt8), (9 : UInt8), (9 : UInt8), (9 : UInt8), (9 : UInt8), (9 : UInt8), (9 : UInt8), (9 : UInt8), (9 : UInt8), (9 : UInt8), (9 : UInt8), (9 : UInt8)]),
 Go.Value.string s] w' fun (v : Go.Value) (w' : Go.World) => ∃ (x : Bool), v = Go.Value.bool x ∧ bif x then ((0 : Int) ≤ Go.IntKind.wrap Go.IntKind.i64 x_1 ∧ Go.IntKind.wrap Go.IntKind.i64 x_1 ≤
 (↑(ByteArray.size (ByteArray.mk #[(9 : UInt8), (9 : UInt8), (9 : UInt8), (9 : UInt8), (9 : UInt8), (9 : UInt8), (9 : UInt8), (9 : UInt8), (9 : UInt8), (9 : UInt8), (9 : UInt8), (9 : UInt8), (9 :
 UInt8), (9 : UInt8), (9 : UInt8), (9 : UInt8), (9 : UInt8), (9 : UInt8), (9 : UInt8), (9 : UInt8), (9 : UInt8), (9 : UInt8), (9 : UInt8), (9 : UInt8), (9 : UInt8), (9 : UInt8), (9 : UInt8), (9 :
 UInt8), (9 : UInt8), (9 : UInt8), (9 : UInt8), (9 : UInt8), (9 : UInt8), (9 : UInt8), (9 : UInt8), (9 : UInt8), (9 : UInt8), (9 : UInt8), (9 : UInt8), (9 : UInt8), (9 : UInt8), (9 : UInt8), (9 :
 UInt8), (9 : UInt8), (9 : UInt8), (9 : UInt8), (9 : UInt8), (9 : UInt8), (9 : UInt8), (9 : UInt8), (9 : UInt8), (9 : UInt8), (9 : UInt8), (9 : UInt8), (9 : UInt8), (9 : UInt8), (9 : UInt8), (9 :
 UInt8), (9 : UInt8), (9 : UInt8), (9 : UInt8), (9 : UInt8), (9 : UInt8), (9 : UInt8)])) : Int)) ∧ K (Go.Value.string (ByteArray.extract (ByteArray.mk #[(9 : UInt8), (9 : UInt8), (9 : UInt8), (9 :
 UInt8), (9 : UInt8), (9 : UInt8), (9 : UInt8), (9 : UInt8), (9 : UInt8), (9 : UInt8), (9 : UInt8), (9 : UInt8), (9 : UInt8), (9 : UInt8), (9 : UInt8), (9 : UInt8), (9 : UInt8), (9 : UInt8), (9 :
 UInt8), (9 : UInt8), (9 : UInt8), (9 : UInt8), (9 : UInt8), (9 : UInt8), (9 : UInt8), (9 : UInt8), (9 : UInt8), (9 : UInt8), (9 : UInt8), (9 : UInt8), (9 : UInt8), (9 : UInt8), (9 : UInt8), (9 :
 UInt8), (9 : UInt8), (9 : UInt8), (9 : UInt8), (9 : UInt8), (9 : UInt8), (9 : UInt8), (9 : UInt8), (9 : UInt8), (9 : UInt8), (9 : UInt8), (9 : UInt8), (9 : UInt8), (9 : UInt8), (9 : UInt8), (9 :
 UInt8), (9 : UInt8), (9 : UInt8), (9 : UInt8), (9 : UInt8), (9 : UInt8), (9 : UInt8), (9 : UInt8), (9 : UInt8), (9 : UInt8), (9 : UInt8), (9 : UInt8), (9 : UInt8), (9 : UInt8), (9 : UInt8), (9 :
 UInt8)]) (0 : Nat) (Int.toNat (Go.IntKind.wrap Go.IntKind.i64 x_1)))) w' else J w' else J w' else bif Decidable.decide (Go.IntKind.wrap Go.IntKind.i64 x_1 ≤ (64 : Int)) then Go.Sx.CallsV
 Go.Proofs.Try.prog (52 : Nat) #[Go.Value.string (ByteArray.mk #[(9 : UInt8), (9 : UInt8), (9 : UInt8), (9 : UInt8), (9 : UInt8), (9 : UInt8), (9 : UInt8), (9 : UInt8), (9 : UInt8), (9 : UInt8), (9 :
 UInt8), (9 : UInt8), (9 : UInt8), (9 : UInt8), (9 : UInt8), (9 : UInt8), (9 : UInt8), (9 : UInt8), (9 : UInt8), (9 : UInt8), (9 : UInt8), (9 : UInt8), (9 : UInt8), (9 : UInt8), (9 : UInt8), (9 :
 UInt8), (9 : UInt8), (9 : UInt8), (9 : UInt8), (9 : UInt8), (9 : UInt8), (9 : UInt8), (9 : UInt8), (9 : UInt8), (9 : UInt8), (9 : UInt8), (9 : UInt8), (9 : UInt8), (9 : UInt8), (9 : UInt8), (9 :
 UInt8), (9 : UInt8), (9 : UInt8), (9 : UInt8), (9 : UInt8), (9 : UInt8), (9 : UInt8), (9 : UInt8), (9 : UInt8), (9 : UInt8), (9 : UInt8), (9 : UInt8), (9 : UInt8), (9 : UInt8), (9 : UInt8), (9 :
 UInt8), (9 : UInt8), (9 : UInt8), (9 : UInt8), (9 : UInt8), (9 : UInt8), (9 : UInt8), (9 : UInt8), (9 : UInt8)]), Go.Value.string s] w' fun (v : Go.Value) (w' : Go.World) => ∃ (x : Bool), v =
 Go.Value.bool x ∧ bif x then ((0 : Int) ≤ Go.IntKind.wrap Go.IntKind.i64 x_1 ∧ Go.IntKind.wrap Go.IntKind.i64 x_1 ≤ (↑(ByteArray.size (ByteArray.mk #[(9 : UInt8), (9 : UInt8), (9 : UInt8), (9 : UInt8),
 (9 : UInt8), (9 : UInt8), (9 : UInt8), (9 : UInt8), (9 : UInt8), (9 : UInt8), (9 : UInt8), (9 : UInt8), (9 : UInt8), (9 : UInt8), (9 : UInt8), (9 : UInt8), (9 : UInt8), (9 : UInt8), (9 : UInt8), (9 :
 UInt8), (9 : UInt8), (9 : UInt8), (9 : UInt8), (9 : UInt8), (9 : UInt8), (9 : UInt8), (9 : UInt8), (9 : UInt8), (9 : UInt8), (9 : UInt8), (9 : UInt8), (9 : UInt8), (9 : UInt8), (9 : UInt8), (9 :
 UInt8), (9 : UInt8), (9 : UInt8), (9 : UInt8), (9 : UInt8), (9 : UInt8), (9 : UInt8), (9 : UInt8), (9 : UInt8), (9 : UInt8), (9 : UInt8), (9 : UInt8), (9 : UInt8), (9 : UInt8), (9 : UInt8), (9 :
 UInt8), (9 : UInt8), (9 : UInt8), (9 : UInt8), (9 : UInt8), (9 : UInt8), (9 : UInt8), (9 : UInt8), (9 : UInt8), (9 : UInt8), (9 : UInt8), (9 : UInt8), (9 : UInt8), (9 : UInt8), (9 : UInt8)])) : Int)) ∧
 K (Go.Value.string (ByteArray.extract (ByteArray.mk #[(9 : UInt8), (9 : UInt8), (9 : UInt8), (9 : UInt8), (9 : UInt8), (9 : UInt8), (9 : UInt8), (9 : UInt8), (9 : UInt8), (9 : UInt8), (9 : UInt8), (9 :
 UInt8), (9 : UInt8), (9 : UInt8), (9 : UInt8), (9 : UInt8), (9 : UInt8), (9 : UInt8), (9 : UInt8), (9 : UInt8), (9 : UInt8), (9 : UInt8), (9 : UInt8), (9 : UInt8), (9 : UInt8), (9 : UInt8), (9 :
 UInt8), (9 : UInt8), (9 : UInt8), (9 : UInt8), (9 : UInt8), (9 : UInt8), (9 : UInt8), (9 : UInt8), (9 : UInt8), (9 : UInt8), (9 : UInt8), (9 : UInt8), (9 : UInt8), (9 : UInt8), (9 : UInt8), (9 :
 UInt8), (9 : UInt8), (9 : UInt8), (9 : UInt8), (9 : UInt8), (9 : UInt8), (9 : UInt8), (9 : UInt8), (9 : UInt8), (9 : UInt8), (9 : UInt8), (9 : UInt8), (9 : UInt8), (9 : UInt8), (9 : UInt8), (9 :
 UInt8), (9 : UInt8), (9 : UInt8), (9 : UInt8), (9 : UInt8), (9 : UInt8), (9 : UInt8), (9 : UInt8)]) (0 : Nat) (Int.toNat (Go.IntKind.wrap Go.IntKind.i64 x_1)))) w' else J w' else J w' else bif
 Decidable.decide (Go.IntKind.wrap Go.IntKind.i64 x_1 ≤ (128 : Int)) then Go.Sx.CallsV Go.Proofs.Try.prog (52 : Nat) #[Go.Value.string (ByteArray.mk #[(61 : UInt8), (61 : UInt8), (61 : UInt8), (61 :
 UInt8), (61 : UInt8), (61 : UInt8), (61 : UInt8), (61 : UInt8), (61 : UInt8), (61 : UInt8), (61 : UInt8), (61 : UInt8), (61 : UInt8), (61 : UInt8), (61 : UInt8), (61 : UInt8), (61 : UInt8), (61 :
 UInt8), (61 : UInt8), (61 : UInt8), (61 : UInt8), (61 : UInt8), (61 : UInt8), (61 : UInt8), (61 : UInt8), (61 : UInt8), (61 : UInt8), (61 : UInt8), (61 : UInt8), (61 : UInt8), (61 : UInt8), (61 :
 UInt8), (61 : UInt8), (61 : UInt8), (61 : UInt8), (61 : UInt8), (61 : UInt8), (61 : UInt8), (61 : UInt8), (61 : UInt8), (61 : UInt8), (61 : UInt8), (61 : UInt8), (61 : UInt8), (61 : UInt8), (61 :
 UInt8), (61 : UInt8), (61 : UInt8), (61 : UInt8), (61 : UInt8), (61 : UInt8), (61 : UInt8), (61 : UInt8), (61 : UInt8), (61 : UInt8), (61 : UInt8), (61 : UInt8), (61 : UInt8), (61 : UInt8), (61 :
 UInt8), (61 : UInt8), (61 : UInt8), (61 : UInt8), (61 : UInt8), (61 : UInt8), (61 : UInt8), (61 : UInt8), (61 : UInt8), (61 : UInt8), (61 : UInt8), (61 : UInt8), (61 : UInt8), (61 : UInt8), (61 :
 UInt8), (61 : UInt8), (61 : UInt8), (61 : UInt8), (61 : UInt8), (61 : UInt8), (61 : UInt8), (61 : UInt8), (61 : UInt8), (61 : UInt8), (61 : UInt8), (61 : UInt8), (61 : UInt8), (61 : UInt8), (61 :
 UInt8), (61 : UInt8), (61 : UInt8), (61 : UInt8), (61 : UInt8), (61 : UInt8), (61 : UInt8), (61 : UInt8), (61 : UInt8), (61 : UInt8), (61 : UInt8), (61 : UInt8), (61 : UInt8), (61 : UInt8), (61 :
 UInt8), (61 : UInt8), (61 : UInt8), (61 : UInt8), (61 : UInt8), (61 : UInt8), (61 : UInt8), (61 : UInt8), (61 : UInt8), (61 : UInt8), (61 : UInt8), (61 : UInt8), (61 : UInt8), (61 : UInt8), (61 :
 UInt8), (61 : UInt8), (61 : UInt8), (61 : UInt8), (61 : UInt8), (61 : UInt8), (61 : UInt8), (61 : UInt8), (61 : UInt8), (61 : UInt8), (61 : UInt8), (61 : UInt8), (61 : UInt8)]), Go.Value.string s] w'
 fun (v : Go.Value) (w' : Go.World) => ∃ (x : Bool), v = Go.Value.bool x ∧ bif x then ((0 : Int) ≤ Go.IntKind.wrap Go.IntKind.i64 x_1 ∧ Go.IntKind.wrap Go.IntKind.i64 x_1 ≤ (↑(ByteArray.size
 (ByteArray.mk #[(61 : UInt8), (61 : UInt8), (61 : UInt8), (61 : UInt8), (61 : UInt8), (61 : UInt8), (61 : UInt8), (61 : UInt8), (61 : UInt8), (61 : UInt8), (61 : UInt8), (61 : UInt8), (61 : UInt8), (61
 : UInt8), (61 : UInt8), (61 : UInt8), (61 : UInt8), (61 : UInt8), (61 : UInt8), (61 : UInt8), (61 : UInt8), (61 : UInt8), (61 : UInt8), (61 : UInt8), (61 : UInt8), (61 : UInt8), (61 : UInt8), (61 :
 UInt8), (61 : UInt8), (61 : UInt8), (61 : UInt8), (61 : UInt8), (61 : UInt8), (61 : UInt8), (61 : UInt8), (61 : UInt8), (61 : UInt8), (61 : UInt8), (61 : UInt8), (61 : UInt8), (61 : UInt8), (61 :
 UInt8), (61 : UInt8), (61 : UInt8), (61 : UInt8), (61 : UInt8), (61 : UInt8), (61 : UInt8), (61 : UInt8), (61 : UInt8), (61 : UInt8), (61 : UInt8), (61 : UInt8), (61 : UInt8), (61 : UInt8), (61 :
 UInt8), (61 : UInt8), (61 : UInt8), (61 : UInt8), (61 : UInt8), (61 : UInt8), (61 : UInt8), (61 : UInt8), (61 : UInt8), (61 : UInt8), (61 : UInt8), (61 : UInt8), (61 : UInt8), (61 : UInt8), (61 :
 UInt8), (61 : UInt8), (61 : UInt8), (61 : UInt8), (61 : UInt8), (61 : UInt8), (61 : UInt8), (61 : UInt8), (61 : UInt8), (61 : UInt8), (61 : UInt8), (61 : UInt8), (61 : UInt8), (61 : UInt8), (61 :
 UInt8), (61 : UInt8), (61 : UInt8), (61 : UInt8), (61 : UInt8), (61 : UInt8), (61 : UInt8), (61 : UInt8), (61 : UInt8), (61 : UInt8), (61 : UInt8), (61 : UInt8), (61 : UInt8), (61 : UInt8), (61 :
 UInt8), (61 : UInt8), (61 : UInt8), (61 : UInt8), (61 : UInt8), (61 : UInt8), (61 : UInt8), (61 : UInt8), (61 : UInt8), (61 : UInt8), (61 : UInt8), (61 : UInt8), (61 : UInt8), (61 : UInt8), (61 :
 UInt8), (61 : UInt8), (61 : UInt8), (61 : UInt8), (61 : UInt8), (61 : UInt8), (61 : UInt8), (61 : UInt8), (61 : UInt8), (61 : UInt8), (61 : UInt8), (61 : UInt8), (61 : UInt8), (61 : UInt8), (61 :
 UInt8), (61 : UInt8), (61 : UInt8)])) : Int)) ∧ K (Go.Value.string (ByteArray.extract (ByteArray.mk #[(61 : UInt8), (61 : UInt8), (61 : UInt8), (61 : UInt8), (61 : UInt8), (61 : UInt8), (61 : UInt8),
 (61 : UInt8), (61 : UInt8), (61 : UInt8), (61 : UInt8), (61 : UInt8), (61 : UInt8), (61 : UInt8), (61 : UInt8), (61 : UInt8), (61 : UInt8), (61 : UInt8), (61 : UInt8), (61 : UInt8), (61 : UInt8), (61 :
 UInt8), (61 : UInt8), (61 : UInt8), (61 : UInt8), (61 : UInt8), (61 : UInt8), (61 : UInt8), (61 : UInt8), (61 : UInt8), (61 : UInt8), (61 : UInt8), (61 : UInt8), (61 : UInt8), (61 : UInt8), (61 :
 UInt8), (61 : UInt8), (61 : UInt8), (61 : UInt8), (61 : UInt8), (61 : UInt8), (61 : UInt8), (61 : UInt8), (61 : UInt8), (61 : UInt8), (61 : UInt8), (61 : UInt8), (61 : UInt8), (61 : UInt8), (61 :
 UInt8), (61 : UInt8), (61 : UInt8), (61 : UInt8), (61 : UInt8), (61 : UInt8), (61 : UInt8), (61 : UInt8), (61 : UInt8), (61 : UInt8), (61 : UInt8), (61 : UInt8), (61 : UInt8), (61 : UInt8), (61 :
 UInt8), (61 : UInt8), (61 : UInt8), (61 : UInt8), (61 : UInt8), (61 : UInt8), (61 : UInt8), (61 : UInt8), (61 : UInt8), (61 : UInt8), (61 : UInt8), (61 : UInt8), (61 : UInt8), (61 : UInt8), (61 :
 UInt8), (61 : UInt8), (61 : UInt8), (61 : UInt8), (61 : UInt8), (61 : UInt8), (61 : UInt8), (61 : UInt8), (61 : UInt8), (61 : UInt8), (61 : UInt8), (61 : UInt8), (61 : UInt8), (61 : UInt8), (61 :
 UInt8), (61 : UInt8), (61 : UInt8), (61 : UInt8), (61 : UInt8), (61 : UInt8), (61 : UInt8), (61 : UInt8), (61 : UInt8), (61 : UInt8), (61 : UInt8), (61 : UInt8), (61 : UInt8), (61 : UInt8), (61 :
 UInt8), (61 : UInt8), (61 : UInt8), (61 : UInt8), (61 : UInt8), (61 : UInt8), (61 : UInt8), (61 : UInt8), (61 : UInt8), (61 : UInt8), (61 : UInt8), (61 : UInt8), (61 : UInt8), (61 : UInt8), (61 :
 UInt8), (61 : UInt8), (61 : UInt8), (61 : UInt8), (61 : UInt8), (61 : UInt8), (61 : UInt8), (61 : UInt8), (61 : UInt8)]) (0 : Nat) (Int.toNat (Go.IntKind.wrap Go.IntKind.i64 x_1)))) w' else bif
 Decidable.decide (Go.IntKind.wrap Go.IntKind.i64 x_1 ≤ (64 : Int)) then Go.Sx.CallsV Go.Proofs.Try.prog (52 : Nat) #[Go.Value.string (ByteArray.mk #[(9 : UInt8), (9 : UInt8), (9 : UInt8), (9 : UInt8),
 (9 : UInt8), (9 : UInt8), (9 : UInt8), (9 : UInt8), (9 : UInt8), (9 : UInt8), (9 : UInt8), (9 : UInt8), (9 : UInt8), (9 : UInt8), (9 : UInt8), (9 : UInt8), (9 : UInt8), (9 : UInt8), (9 : UInt8), (9 :
 UInt8), (9 : UInt8), (9 : UInt8), (9 : UInt8), (9 : UInt8), (9 : UInt8), (9 : UInt8), (9 : UInt8), (9 : UInt8), (9 : UInt8), (9 : UInt8), (9 : UInt8), (9 : UInt8), (9 : UInt8), (9 : UInt8), (9 :
 UInt8), (9 : UInt8), (9 : UInt8), (9 : UInt8), (9 : UInt8), (9 : UInt8), (9 : UInt8), (9 : UInt8), (9 : UInt8), (9 : UInt8), (9 : UInt8), (9 : UInt8), (9 : UInt8), (9 : UInt8), (9 : UInt8), (9 :
 UInt8), (9 : UInt8), (9 : UInt8), (9 : UInt8), (9 : UInt8), (9 : UInt8), (9 : UInt8), (9 : UInt8), (9 : UInt8), (9 : UInt8), (9 : UInt8), (9 : UInt8), (9 : UInt8), (9 : UInt8), (9 : UInt8)]),
 Go.Value.string s] w' fun (v : Go.Value) (w' : Go.World) => ∃ (x : Bool), v = Go.Value.bool x ∧ bif x then ((0 : Int) ≤ Go.IntKind.wrap Go.IntKind.i64 x_1 ∧ Go.IntKind.wrap Go.IntKind.i64 x_1 ≤
 (↑(ByteArray.size (ByteArray.mk #[(9 : UInt8), (9 : UInt8), (9 : UInt8), (9 : UInt8), (9 : UInt8), (9 : UInt8), (9 : UInt8), (9 : UInt8), (9 : UInt8), (9 : UInt8), (9 : UInt8), (9 : UInt8), (9 :
 UInt8), (9 : UInt8), (9 : UInt8), (9 : UInt8), (9 : UInt8), (9 : UInt8), (9 : UInt8), (9 : UInt8), (9 : UInt8), (9 : UInt8), (9 : UInt8), (9 : UInt8), (9 : UInt8), (9 : UInt8), (9 : UInt8), (9 :
 UInt8), (9 : UInt8), (9 : UInt8), (9 : UInt8), (9 : UInt8), (9 : UInt8), (9 : UInt8), (9 : UInt8), (9 : UInt8), (9 : UInt8), (9 : UInt8), (9 : UInt8), (9 : UInt8), (9 : UInt8), (9 : UInt8), (9 :
 UInt8), (9 : UInt8), (9 : UInt8), (9 : UInt8), (9 : UInt8), (9 : UInt8), (9 : UInt8), (9 : UInt8), (9 : UInt8), (9 : UInt8), (9 : UInt8), (9 : UInt8), (9 : UInt8), (9 : UInt8), (9 : UInt8), (9 :
 UInt8), (9 : UInt8), (9 : UInt8), (9 : UInt8), (9 : UInt8), (9 : UInt8), (9 : UInt8)])) : Int)) ∧ K (Go.Value.string (ByteArray.extract (ByteArray.mk #[(9 : UInt8), (9 : UInt8), (9 : UInt8), (9 :
 UInt8), (9 : UInt8), (9 : UInt8), (9 : UInt8), (9 : UInt8), (9 : UInt8), (9 : UInt8), (9 : UInt8), (9 : UInt8), (9 : UInt8), (9 : UInt8), (9 : UInt8), (9 : UInt8), (9 : UInt8), (9 : UInt8), (9 :
 UInt8), (9 : UInt8), (9 : UInt8), (9 : UInt8), (9 : UInt8), (9 : UInt8), (9 : UInt8), (9 : UInt8), (9 : UInt8), (9 : UInt8), (9 : UInt8), (9 : UInt8), (9 : UInt8), (9 : UInt8), (9 : UInt8), (9 :
 UInt8), (9 : UInt8), (9 : UInt8), (9 : UInt8), (9 : UInt8), (9 : UInt8), (9 : UInt8), (9 : UInt8), (9 : UInt8), (9 : UInt8), (9 : UInt8), (9 : UInt8), (9 : UInt8), (9 : UInt8), (9 : UInt8), (9 :
 UInt8), (9 : UInt8), (9 : UInt8), (9 : UInt8), (9 : UInt8), (9 : UInt8), (9 : UInt8), (9 : UInt8), (9 : UInt8), (9 : UInt8), (9 : UInt8), (9 : UInt8), (9 : UInt8), (9 : UInt8), (9 : UInt8), (9 :
 UInt8)]) (0 : Nat) (Int.toNat (Go.IntKind.wrap Go.IntKind.i64 x_1)))) w' else J w' else J w' else bif Decidable.decide (Go.IntKind.wrap Go.IntKind.i64 x_1 ≤ (64 : Int)) then Go.Sx.CallsV
 Go.Proofs.Try.prog (52 : Nat) #[Go.Value.string (ByteArray.mk #[(9 : UInt8), (9 : UInt8), (9 : UInt8), (9 : UInt8), (9 : UInt8), (9 : UInt8), (9 : UInt8), (9 : UInt8), (9 : UInt8), (9 : UInt8), (9 :
 UInt8), (9 : UInt8), (9 : UInt8), (9 : UInt8), (9 : UInt8), (9 : UInt8), (9 : UInt8), (9 : UInt8), (9 : UInt8), (9 : UInt8), (9 : UInt8), (9 : UInt8), (9 : UInt8), (9 : UInt8), (9 : UInt8), (9 :
 UInt8), (9 : UInt8), (9 : UInt8), (9 : UInt8), (9 : UInt8), (9 : UInt8), (9 : UInt8), (9 : UInt8), (9 : UInt8), (9 : UInt8), (9 : UInt8), (9 : UInt8), (9 : UInt8), (9 : UInt8), (9 : UInt8), (9 :
 UInt8), (9 : UInt8), (9 : UInt8), (9 : UInt8), (9 : UInt8), (9 : UInt8), (9 : UInt8), (9 : UInt8), (9 : UInt8), (9 : UInt8), (9 : UInt8), (9 : UInt8), (9 : UInt8), (9 : UInt8), (9 : UInt8), (9 :
 UInt8), (9 : UInt8), (9 : UInt8), (9 : UInt8), (9 : UInt8), (9 : UInt8), (9 : UInt8), (9 : UInt8), (9 : UInt8)]), Go.Value.string s] w' fun (v : Go.Value) (w' : Go.World) => ∃ (x : Bool), v =
 Go.Value.bool x ∧ bif x then ((0 : Int) ≤ Go.IntKind.wrap Go.IntKind.i64 x_1 ∧ Go.IntKind.wrap Go.IntKind.i64 x_1 ≤ (↑(ByteArray.size (ByteArray.mk #[(9 : UInt8), (9 : UInt8), (9 : UInt8), (9 : UInt8),
 (9 : UInt8), (9 : UInt8), (9 : UInt8), (9 : UInt8), (9 : UInt8), (9 : UInt8), (9 : UInt8), (9 : UInt8), (9 : UInt8), (9 : UInt8), (9 : UInt8), (9 : UInt8), (9 : UInt8), (9 : UInt8), (9 : UInt8), (9 :
 UInt8), (9 : UInt8), (9 : UInt8), (9 : UInt8), (9 : UInt8), (9 : UInt8), (9 : UInt8), (9 : UInt8), (9 : UInt8), (9 : UInt8), (9 : UInt8), (9 : UInt8), (9 : UInt8), (9 : UInt8), (9 : UInt8), (9 :
 UInt8), (9 : UInt8), (9 : UInt8), (9 : UInt8), (9 : UInt8), (9 : UInt8), (9 : UInt8), (9 : UInt8), (9 : UInt8), (9 : UInt8), (9 : UInt8), (9 : UInt8), (9 : UInt8), (9 : UInt8), (9 : UInt8), (9 :
 UInt8), (9 : UInt8), (9 : UInt8), (9 : UInt8), (9 : UInt8), (9 : UInt8), (9 : UInt8), (9 : UInt8), (9 : UInt8), (9 : UInt8), (9 : UInt8), (9 : UInt8), (9 : UInt8), (9 : UInt8), (9 : UInt8)])) : Int)) ∧
 K (Go.Value.string (ByteArray.extract (ByteArray.mk #[(9 : UInt8), (9 : UInt8), (9 : UInt8), (9 : UInt8), (9 : UInt8), (9 : UInt8), (9 : UInt8), (9 : UInt8), (9 : UInt8), (9 : UInt8), (9 : UInt8), (9 :
 UInt8), (9 : UInt8), (9 : UInt8), (9 : UInt8), (9 : UInt8), (9 : UInt8), (9 : UInt8), (9 : UInt8), (9 : UInt8), (9 : UInt8), (9 : UInt8), (9 : UInt8), (9 : UInt8), (9 : UInt8), (9 : UInt8), (9 :
 UInt8), (9 : UInt8), (9 : UInt8), (9 : UInt8), (9 : UInt8), (9 : UInt8), (9 : UInt8), (9 : UInt8), (9 : UInt8), (9 : UInt8), (9 : UInt8), (9 : UInt8), (9 : UInt8), (9 : UInt8), (9 : UInt8), (9 :
 UInt8), (9 : UInt8), (9 : UInt8), (9 : UInt8), (9 : UInt8), (9 : UInt8), (9 : UInt8), (9 : UInt8), (9 : UInt8), (9 : UInt8), (9 : UInt8), (9 : UInt8), (9 : UInt8), (9 : UInt8), (9 : UInt8), (9 :
 UInt8), (9 : UInt8), (9 : UInt8), (9 : UInt8), (9 : UInt8), (9 : UInt8), (9 : UInt8), (9 : UInt8)]) (0 : Nat) (Int.toNat (Go.IntKind.wrap Go.IntKind.i64 x_1)))) w' else J w' else J w' else bif
 Decidable.decide (Go.IntKind.wrap Go.IntKind.i64 x_1 ≤ (64 : Int)) then Go.Sx.CallsV Go.Proofs.Try.prog (52 : Nat) #[Go.Value.string (ByteArray.mk #[(48 : UInt8), (48 : UInt8), (48 : UInt8), (48 :
 UInt8), (48 : UInt8), (48 : UInt8), (48 : UInt8), (48 : UInt8), (48 : UInt8), (48 : UInt8), (48 : UInt8), (48 : UInt8), (48 : UInt8), (48 : UInt8), (48 : UInt8), (48 : UInt8), (48 : UInt8), (48 :
 UInt8), (48 : UInt8), (48 : UInt8), (48 : UInt8), (48 : UInt8), (48 : UInt8), (48 : UInt8), (48 : UInt8), (48 : UInt8), (48 : UInt8), (48 : UInt8), (48 : UInt8), (48 : UInt8), (48 : UInt8), (48 :
 UInt8), (48 : UInt8), (48 : UInt8), (48 : UInt8), (48 : UInt8), (48 : UInt8), (48 : UInt8), (48 : UInt8), (48 : UInt8), (48 : UInt8), (48 : UInt8), (48 : UInt8), (48 : UInt8), (48 : UInt8), (48 :
 UInt8), (48 : UInt8), (48 : UInt8), (48 : UInt8), (48 : UInt8), (48 : UInt8), (48 : UInt8), (48 : UInt8), (48 : UInt8), (48 : UInt8), (48 : UInt8), (48 : UInt8), (48 : UInt8), (48 : UInt8), (48 :
 UInt8), (48 : UInt8), (48 : UInt8), (48 : UInt8), (48 : UInt8)]), Go.Value.string s] w' fun (v : Go.Value) (w' : Go.World) => ∃ (x : Bool), v = Go.Value.bool x ∧ bif x then ((0 : Int) ≤ Go.IntKind.wrap
 Go.IntKind.i64 x_1 ∧ Go.IntKind.wrap Go.IntKind.i64 x_1 ≤ (↑(ByteArray.size (ByteArray.mk #[(48 : UInt8), (48 : UInt8), (48 : UInt8), (48 : UInt8), (48 : UInt8), (48 : UInt8), (48 : UInt8), (48 :
 UInt8), (48 : UInt8), (48 : UInt8), (48 : UInt8), (48 : UInt8), (48 : UInt8), (48 : UInt8), (48 : UInt8), (48 : UInt8), (48 : UInt8), (48 : UInt8), (48 : UInt8), (48 : UInt8), (48 : UInt8), (48 :
 UInt8), (48 : UInt8), (48 : UInt8), (48 : UInt8), (48 : UInt8), (48 : UInt8), (48 : UInt8), (48 : UInt8), (48 : UInt8), (48 : UInt8), (48 : UInt8), (48 : UInt8), (48 : UInt8), (48 : UInt8), (48 :
 UInt8), (48 : UInt8), (48 : UInt8), (48 : UInt8), (48 : UInt8), (48 : UInt8), (48 : UInt8), (48 : UInt8), (48 : UInt8), (48 : UInt8), (48 : UInt8), (48 : UInt8), (48 : UInt8), (48 : UInt8), (48 :
 UInt8), (48 : UInt8), (48 : UInt8), (48 : UInt8), (48 : UInt8), (48 : UInt8), (48 : UInt8), (48 : UInt8), (48 : UInt8), (48 : UInt8), (48 : UInt8), (48 : UInt8), (48 : UInt8), (48 : UInt8), (48 :
 UInt8)])) : Int)) ∧ K (Go.Value.string (ByteArray.extract (ByteArray.mk #[(48 : UInt8), (48 : UInt8), (48 : UInt8), (48 : UInt8), (48 : UInt8), (48 : UInt8), (48 : UInt8), (48 : UInt8), (48 : UInt8),
 (48 : UInt8), (48 : UInt8), (48 : UInt8), (48 : UInt8), (48 : UInt8), (48 : UInt8), (48 : UInt8), (48 : UInt8), (48 : UInt8), (48 : UInt8), (48 : UInt8), (48 : UInt8), (48 : UInt8), (48 : UInt8), (48 :
 UInt8), (48 : UInt8), (48 : UInt8), (48 : UInt8), (48 : UInt8), (48 : UInt8), (48 : UInt8), (48 : UInt8), (48 : UInt8), (48 : UInt8), (48 : UInt8), (48 : UInt8), (48 : UInt8), (48 : UInt8), (48 :
 UInt8), (48 : UInt8), (48 : UInt8), (48 : UInt8), (48 : UInt8), (48 : UInt8), (48 : UInt8), (48 : UInt8), (48 : UInt8), (48 : UInt8), (48 : UInt8), (48 : UInt8), (48 : UInt8), (48 : UInt8), (48 :
 UInt8), (48 : UInt8), (48 : UInt8), (48 : UInt8), (48 : UInt8), (48 : UInt8), (48 : UInt8), (48 : UInt8), (48 : UInt8), (48 : UInt8), (48 : UInt8), (48 : UInt8), (48 : UInt8)]) (0 : Nat) (Int.toNat
 (Go.IntKind.wrap Go.IntKind.i64 x_1)))) w' else bif Decidable.decide (Go.IntKind.wrap Go.IntKind.i64 x_1 ≤ (128 : Int)) then Go.Sx.CallsV Go.Proofs.Try.prog (52 : Nat) #[Go.Value.string (ByteArray.mk
 #[(61 : UInt8), (61 : UInt8), (61 : UInt8), (61 : UInt8), (61 : UInt8), (61 : UInt8), (61 : UInt8), (61 : UInt8), (61 : UInt8), (61 : UInt8), (61 : UInt8), (61 : UInt8), (61 : UInt8), (61 : UInt8), (61
 : UInt8), (61 : UInt8), (61 : UInt8), (61 : UInt8), (61 : UInt8), (61 : UInt8), (61 : UInt8), (61 : UInt8), (61 : UInt8), (61 : UInt8), (61 : UInt8), (61 : UInt8), (61 : UInt8), (61 : UInt8), (61 :
 UInt8), (61 : UInt8), (61 : UInt8), (61 : UInt8), (61 : UInt8), (61 : UInt8), (61 : UInt8), (61 : UInt8), (61 : UInt8), (61 : UInt8), (61 : UInt8), (61 : UInt8), (61 : UInt8), (61 : UInt8), (61 :
 UInt8), (61 : UInt8), (61 : UInt8), (61 : UInt8), (61 : UInt8), (61 : UInt8), (61 : UInt8), (61 : UInt8), (61 : UInt8), (61 : UInt8), (61 : UInt8), (61 : UInt8), (61 : UInt8), (61 : UInt8), (61 :
 UInt8), (61 : UInt8), (61 : UInt8), (61 : UInt8), (61 : UInt8), (61 : UInt8), (61 : UInt8), (61 : UInt8), (61 : UInt8), (61 : UInt8), (61 : UInt8), (61 : UInt8), (61 : UInt8), (61 : UInt8), (61 :
 UInt8), (61 : UInt8), (61 : UInt8), (61 : UInt8), (61 : UInt8), (61 : UInt8), (61 : UInt8), (61 : UInt8), (61 : UInt8), (61 : UInt8), (61 : UInt8), (61 : UInt8), (61 : UInt8), (61 : UInt8), (61 :
 UInt8), (61 : UInt8), (61 : UInt8), (61 : UInt8), (61 : UInt8), (61 : UInt8), (61 : UInt8), (61 : UInt8), (61 : UInt8), (61 : UInt8), (61 : UInt8), (61 : UInt8), (61 : UInt8), (61 : UInt8), (61 :
 UInt8), (61 : UInt8), (61 : UInt8), (61 : UInt8), (61 : UInt8), (61 : UInt8), (61 : UInt8), (61 : UInt8), (61 : UInt8), (61 : UInt8), (61 : UInt8), (61 : UInt8), (61 : UInt8), (61 : UInt8), (61 :
 UInt8), (61 : UInt8), (61 : UInt8), (61 : UInt8), (61 : UInt8), (61 : UInt8), (61 : UInt8), (61 : UInt8), (61 : UInt8), (61 : UInt8), (61 : UInt8), (61 : UInt8), (61 : UInt8), (61 : UInt8), (61 :
 UInt8), (61 : UInt8)]), Go.Value.string s] w' fun (v : Go.Value) (w' : Go.World) => ∃ (x : Bool), v = Go.Value.bool x ∧ bif x then ((0 : Int) ≤ Go.IntKind.wrap Go.IntKind.i64 x_1 ∧ Go.IntKind.wrap
 Go.IntKind.i64 x_1 ≤ (↑(ByteArray.size (ByteArray.mk #[(61 : UInt8), (61 : UInt8), (61 : UInt8), (61 : UInt8), (61 : UInt8), (61 : UInt8), (61 : UInt8), (61 : UInt8), (61 : UInt8), (61 : UInt8), (61 :
 UInt8), (61 : UInt8), (61 : UInt8), (61 : UInt8), (61 : UInt8), (61 : UInt8), (61 : UInt8), (61 : UInt8), (61 : UInt8), (61 : UInt8), (61 : UInt8), (61 : UInt8), (61 : UInt8), (61 : UInt8), (61 :
 UInt8), (61 : UInt8), (61 : UInt8), (61 : UInt8), (61 : UInt8), (61 : UInt8), (61 : UInt8), (61 : UInt8), (61 : UInt8), (61 : UInt8), (61 : UInt8), (61 : UInt8), (61 : UInt8), (61 : UInt8), (61 :
 UInt8), (61 : UInt8), (61 : UInt8), (61 : UInt8), (61 : UInt8), (61 : UInt8), (61 : UInt8), (61 : UInt8), (61 : UInt8), (61 : UInt8), (61 : UInt8), (61 : UInt8), (61 : UInt8), (61 : UInt8), (61 :
 UInt8), (61 : UInt8), (61 : UInt8), (61 : UInt8), (61 : UInt8), (61 : UInt8), (61 : UInt8), (61 : UInt8), (61 : UInt8), (61 : UInt8), (61 : UInt8), (61 : UInt8), (61 : UInt8), (61 : UInt8), (61 :
 UInt8), (61 : UInt8), (61 : UInt8), (61 : UInt8), (61 : UInt8), (61 : UInt8), (61 : UInt8), (61 : UInt8), (61 : UInt8), (61 : UInt8), (61 : UInt8), (61 : UInt8), (61 : UInt8), (61 : UInt8), (61 :
 UInt8), (61 : UInt8), (61 : UInt8), (61 : UInt8), (61 : UInt8), (61 : UInt8), (61 : UInt8), (61 : UInt8), (61 : UInt8), (61 : UInt8), (61 : UInt8), (61 : UInt8), (61 : UInt8), (61 : UInt8), (61 :
 UInt8), (61 : UInt8), (61 : UInt8), (61 : UInt8), (61 : UInt8), (61 : UInt8), (61 : UInt8), (61 : UInt8), (61 : UInt8), (61 : UInt8), (61 : UInt8), (61 : UInt8), (61 : UInt8), (61 : UInt8), (61 :
 UInt8), (61 : UInt8), (61 : UInt8), (61 : UInt8), (61 : UInt8), (61 : UInt8), (61 : UInt8), (61 : UInt8), (61 : UInt8), (61 : UInt8), (61 : UInt8), (61 : UInt8), (61 : UInt8), (61 : UInt8), (61 :
 UInt8), (61 : UInt8), (61 : UInt8), (61 : UInt8), (61 : UInt8), (61 : UInt8)])) : Int)) ∧ K (Go.Value.string (ByteArray.extract (ByteArray.mk #[(61 : UInt8), (61 : UInt8), (61 : UInt8), (61 : UInt8),
 (61 : UInt8), (61 : UInt8), (61 : UInt8), (61 : UInt8), (61 : UInt8), (61 : UInt8), (61 : UInt8), (61 : UInt8), (61 : UInt8), (61 : UInt8), (61 : UInt8), (61 : UInt8), (61 : UInt8), (61 : UInt8), (61 :
 UInt8), (61 : UInt8), (61 : UInt8), (61 : UInt8), (61 : UInt8), (61 : UInt8), (61 : UInt8), (61 : UInt8), (61 : UInt8), (61 : UInt8), (61 : UInt8), (61 : UInt8), (61 : UInt8), (61 : UInt8), (61 :
 UInt8), (61 : UInt8), (61 : UInt8), (61 : UInt8), (61 : UInt8), (61 : UInt8), (61 : UInt8), (61 : UInt8), (61 : UInt8), (61 : UInt8), (61 : UInt8), (61 : UInt8), (61 : UInt8), (61 : UInt8), (61 :
 UInt8), (61 : UInt8), (61 : UInt8), (61 : UInt8), (61 : UInt8), (61 : UInt8), (61 : UInt8), (61 : UInt8), (61 : UInt8), (61 : UInt8), (61 : UInt8), (61 : UInt8), (61 : UInt8), (61 : UInt8), (61 :
 UInt8), (61 : UInt8), (61 : UInt8), (61 : UInt8), (61 : UInt8), (61 : UInt8), (61 : UInt8), (61 : UInt8), (61 : UInt8), (61 : UInt8), (61 : UInt8), (61 : UInt8), (61 : UInt8), (61 : UInt8), (61 :
 UInt8), (61 : UInt8), (61 : UInt8), (61 : UInt8), (61 : UInt8), (61 : UInt8), (61 : UInt8), (61 : UInt8), (61 : UInt8), (61 : UInt8), (61 : UInt8), (61 : UInt8), (61 : UInt8), (61 : UInt8), (61 :
 UInt8), (61 : UInt8), (61 : UInt8), (61 : UInt8), (61 : UInt8), (61 : UInt8), (61 : UInt8), (61 : UInt8), (61 : UInt8), (61 : UInt8), (61 : UInt8), (61 : UInt8), (61 : UInt8), (61 : UInt8), (61 :
 UInt8), (61 : UInt8), (61 : UInt8), (61 : UInt8), (61 : UInt8), (61 : UInt8), (61 : UInt8), (61 : UInt8), (61 : UInt8), (61 : UInt8), (61 : UInt8), (61 : UInt8), (61 : UInt8), (61 : UInt8), (61 :
 UInt8), (61 : UInt8), (61 : UInt8), (61 : UInt8), (61 : UInt8), (61 : UInt8), (61 : UInt8), (61 : UInt8), (61 : UInt8), (61 : UInt8), (61 : UInt8), (61 : UInt8)]) (0 : Nat) (Int.toNat (Go.IntKind.wrap
 Go.IntKind.i64 x_1)))) w' else bif Decidable.decide (Go.IntKind.wrap Go.IntKind.i64 x_1 ≤ (64 : Int)) then Go.Sx.CallsV Go.Proofs.Try.prog (52 : Nat) #[Go.Value.string (ByteArray.mk #[(9 : UInt8), (9 :
 UInt8), (9 : UInt8), (9 : UInt8), (9 : UInt8), (9 : UInt8), (9 : UInt8), (9 : UInt8), (9 : UInt8), (9 : UInt8), (9 : UInt8), (9 : UInt8), (9 : UInt8), (9 : UInt8), (9 : UInt8), (9 : UInt8), (9 :
 UInt8), (9 : UInt8), (9 : UInt8), (9 : UInt8), (9 : UInt8), (9 : UInt8), (9 : UInt8), (9 : UInt8), (9 : UInt8), (9 : UInt8), (9 : UInt8), (9 : UInt8), (9 : UInt8), (9 : UInt8), (9 : UInt8), (9 :
 UInt8), (9 : UInt8), (9 : UInt8), (9 : UInt8), (9 : UInt8), (9 : UInt8), (9 : UInt8), (9 : UInt8), (9 : UInt8), (9 : UInt8), (9 : UInt8), (9 : UInt8), (9 : UInt8), (9 : UInt8), (9 : UInt8), (9 :
 UInt8), (9 : UInt8), (9 : UInt8), (9 : UInt8), (9 : UInt8), (9 : UInt8), (9 : UInt8), (9 : UInt8), (9 : UInt8), (9 : UInt8), (9 : UInt8), (9 : UInt8), (9 : UInt8), (9 : UInt8), (9 : UInt8), (9 :
 UInt8), (9 : UInt8), (9 : UInt8)]), Go.Value.string s] w' fun (v : Go.Value) (w' : Go.World) => ∃ (x : Bool), v = Go.Value.bool x ∧ bif x then ((0 : Int) ≤ Go.IntKind.wrap Go.IntKind.i64 x_1 ∧
 Go.IntKind.wrap Go.IntKind.i64 x_1 ≤ (↑(ByteArray.size (ByteArray.mk #[(9 : UInt8), (9 : UInt8), (9 : UInt8), (9 : UInt8), (9 : UInt8), (9 : UInt8), (9 : UInt8), (9 : UInt8), (9 : UInt8), (9 : UInt8),
 (9 : UInt8), (9 : UInt8), (9 : UInt8), (9 : UInt8), (9 : UInt8), (9 : UInt8), (9 : UInt8), (9 : UInt8), (9 : UInt8), (9 : UInt8), (9 : UInt8), (9 : UInt8), (9 : UInt8), (9 : UInt8), (9 : UInt8), (9 :
 UInt8), (9 : UInt8), (9 : UInt8), (9 : UInt8), (9 : UInt8), (9 : UInt8), (9 : UInt8), (9 : UInt8), (9 : UInt8), (9 : UInt8), (9 : UInt8), (9 : UInt8), (9 : UInt8), (9 : UInt8), (9 : UInt8), (9 :
 UInt8), (9 : UInt8), (9 : UInt8), (9 : UInt8), (9 : UInt8), (9 : UInt8), (9 : UInt8), (9 : UInt8), (9 : UInt8), (9 : UInt8), (9 : UInt8), (9 : UInt8), (9 : UInt8), (9 : UInt8), (9 : UInt8), (9 :
 UInt8), (9 : UInt8), (9 : UInt8), (9 : UInt8), (9 : UInt8), (9 : UInt8), (9 : UInt8), (9 : UInt8), (9 : UInt8)])) : Int)) ∧ K (Go.Value.string (ByteArray.extract (ByteArray.mk #[(9 : UInt8), (9 :
 UInt8), (9 : UInt8), (9 : UInt8), (9 : UInt8), (9 : UInt8), (9 : UInt8), (9 : UInt8), (9 : UInt8), (9 : UInt8), (9 : UInt8), (9 : UInt8), (9 : UInt8), (9 : UInt8), (9 : UInt8), (9 : UInt8), (9 :
 UInt8), (9 : UInt8), (9 : UInt8), (9 : UInt8), (9 : UInt8), (9 : UInt8), (9 : UInt8), (9 : UInt8), (9 : UInt8), (9 : UInt8), (9 : UInt8), (9 : UInt8), (9 : UInt8), (9 : UInt8), (9 : UInt8), (9 :
 UInt8), (9 : UInt8), (9 : UInt8), (9 : UInt8), (9 : UInt8), (9 : UInt8), (9 : UInt8), (9 : UInt8), (9 : UInt8), (9 : UInt8), (9 : UInt8), (9 : UInt8), (9 : UInt8), (9 : UInt8), (9 : UInt8), (9 :
 UInt8), (9 : UInt8), (9 : UInt8), (9 : UInt8), (9 : UInt8), (9 : UInt8), (9 : UInt8), (9 : UInt8), (9 : UInt8), (9 : UInt8), (9 : UInt8), (9 : UInt8), (9 : UInt8), (9 : UInt8), (9 : UInt8), (9 :
 UInt8), (9 : UInt8), (9 : UInt8)]) (0 : Nat) (Int.toNat (Go.IntKind.wrap Go.IntKind.i64 x_1)))) w' else J w' else J w' else bif Decidable.decide (Go.IntKind.wrap Go.IntKind.i64 x_1 ≤ (64 : Int)) then
 Go.Sx.CallsV Go.Proofs.Try.prog (52 : Nat) #[Go.Value.string (ByteArray.mk #[(9 : UInt8), (9 : UInt8), (9 : UInt8), (9 : UInt8), (9 : UInt8), (9 : UInt8), (9 : UInt8), (9 : UInt8), (9 : UInt8), (9 :
 UInt8), (9 : UInt8), (9 : UInt8), (9 : UInt8), (9 : UInt8), (9 : UInt8), (9 : UInt8), (9 : UInt8), (9 : UInt8), (9 : UInt8), (9 : UInt8), (9 : UInt8), (9 : UInt8), (9 : UInt8), (9 : UInt8), (9 :
 UInt8), (9 : UInt8), (9 : UInt8), (9 : UInt8), (9 : UInt8), (9 : UInt8), (9 : UInt8), (9 : UInt8), (9 : UInt8), (9 : UInt8), (9 : UInt8), (9 : UInt8), (9 : UInt8), (9 : UInt8), (9 : UInt8), (9 :
 UInt8), (9 : UInt8), (9 : UInt8), (9 : UInt8), (9 : UInt8), (9 : UInt8), (9 : UInt8), (9 : UInt8), (9 : UInt8), (9 : UInt8), (9 : UInt8), (9 : UInt8), (9 : UInt8), (9 : UInt8), (9 : UInt8), (9 :
 UInt8), (9 : UInt8), (9 : UInt8), (9 : UInt8), (9 : UInt8), (9 : UInt8), (9 : UInt8), (9 : UInt8), (9 : UInt8), (9 : UInt8)]), Go.Value.string s] w' fun (v : Go.Value) (w' : Go.World) => ∃ (x : Bool),
 v = Go.Value.bool x ∧ bif x then ((0 : Int) ≤ Go.IntKind.wrap Go.IntKind.i64 x_1 ∧ Go.IntKind.wrap Go.IntKind.i64 x_1 ≤ (↑(ByteArray.size (ByteArray.mk #[(9 : UInt8), (9 : UInt8), (9 : UInt8), (9 :
 UInt8), (9 : UInt8), (9 : UInt8), (9 : UInt8), (9 : UInt8), (9 : UInt8), (9 : UInt8), (9 : UInt8), (9 : UInt8), (9 : UInt8), (9 : UInt8), (9 : UInt8), (9 : UInt8), (9 : UInt8), (9 : UInt8), (9 :
 UInt8), (9 : UInt8), (9 : UInt8), (9 : UInt8), (9 : UInt8), (9 : UInt8), (9 : UInt8), (9 : UInt8), (9 : UInt8), (9 : UInt8), (9 : UInt8), (9 : UInt8), (9 : UInt8), (9 : UInt8), (9 : UInt8), (9 :
 UInt8), (9 : UInt8), (9 : UInt8), (9 : UInt8), (9 : UInt8), (9 : UInt8), (9 : UInt8), (9 : UInt8), (9 : UInt8), (9 : UInt8), (9 : UInt8), (9 : UInt8), (9 : UInt8), (9 : UInt8), (9 : UInt8), (9 :
 UInt8), (9 : UInt8), (9 : UInt8), (9 : UInt8), (9 : UInt8), (9 : UInt8), (9 : UInt8), (9 : UInt8), (9 : UInt8), (9 : UInt8), (9 : UInt8), (9 : UInt8), (9 : UInt8), (9 : UInt8), (9 : UInt8), (9 :
 UInt8)])) : Int)) ∧ K (Go.Value.string (ByteArray.extract (ByteArray.mk #[(9 : UInt8), (9 : UInt8), (9 : UInt8), (9 : UInt8), (9 : UInt8), (9 : UInt8), (9 : UInt8), (9 : UInt8), (9 : UInt8), (9 :
 UInt8), (9 : UInt8), (9 : UInt8), (9 : UInt8), (9 : UInt8), (9 : UInt8), (9 : UInt8), (9 : UInt8), (9 : UInt8), (9 : UInt8), (9 : UInt8), (9 : UInt8), (9 : UInt8), (9 : UInt8), (9 : UInt8), (9 :
 UInt8), (9 : UInt8), (9 : UInt8), (9 : UInt8), (9 : UInt8), (9 : UInt8), (9 : UInt8), (9 : UInt8), (9 : UInt8), (9 : UInt8), (9 : UInt8), (9 : UInt8), (9 : UInt8), (9 : UInt8), (9 : UInt8), (9 :
 UInt8), (9 : UInt8), (9 : UInt8), (9 : UInt8), (9 : UInt8), (9 : UInt8), (9 : UInt8), (9 : UInt8), (9 : UInt8), (9 : UInt8), (9 : UInt8), (9 : UInt8), (9 : UInt8), (9 : UInt8), (9 : UInt8), (9 :
 UInt8), (9 : UInt8), (9 : UInt8), (9 : UInt8), (9 : UInt8), (9 : UInt8), (9 : UInt8), (9 : UInt8), (9 : UInt8), (9 : UInt8)]) (0 : Nat) (Int.toNat (Go.IntKind.wrap Go.IntKind.i64 x_1)))) w' else J w'
 else J w' else bif Decidable.decide (Go.IntKind.wrap Go.IntKind.i64 x_1 ≤ (128 : Int)) then Go.Sx.CallsV Go.Proofs.Try.prog (52 : Nat) #[Go.Value.string (ByteArray.mk #[(61 : UInt8), (61 : UInt8), (61
 : UInt8), (61 : UInt8), (61 : UInt8), (61 : UInt8), (61 : UInt8), (61 : UInt8), (61 : UInt8), (61 : UInt8), (61 : UInt8), (61 : UInt8), (61 : UInt8), (61 : UInt8), (61 : UInt8), (61 : UInt8), (61 :
 UInt8), (61 : UInt8), (61 : UInt8), (61 : UInt8), (61 : UInt8), (61 : UInt8), (61 : UInt8), (61 : UInt8), (61 : UInt8), (61 : UInt8), (61 : UInt8), (61 : UInt8), (61 : UInt8), (61 : UInt8), (61 :
 UInt8), (61 : UInt8), (61 : UInt8), (61 : UInt8), (61 : UInt8), (61 : UInt8), (61 : UInt8), (61 : UInt8), (61 : UInt8), (61 : UInt8), (61 : UInt8), (61 : UInt8), (61 : UInt8), (61 : UInt8), (61 :
 UInt8), (61 : UInt8), (61 : UInt8), (61 : UInt8), (61 : UInt8), (61 : UInt8), (61 : UInt8), (61 : UInt8), (61 : UInt8), (61 : UInt8), (61 : UInt8), (61 : UInt8), (61 : UInt8), (61 : UInt8), (61 :
 UInt8), (61 : UInt8), (61 : UInt8), (61 : UInt8), (61 : UInt8), (61 : UInt8), (61 : UInt8), (61 : UInt8), (61 : UInt8), (61 : UInt8), (61 : UInt8), (61 : UInt8), (61 : UInt8), (61 : UInt8), (61 :
 UInt8), (61 : UInt8), (61 : UInt8), (61 : UInt8), (61 : UInt8), (61 : UInt8), (61 : UInt8), (61 : UInt8), (61 : UInt8), (61 : UInt8), (61 : UInt8), (61 : UInt8), (61 : UInt8), (61 : UInt8), (61 :
 UInt8), (61 : UInt8), (61 : UInt8), (61 : UInt8), (61 : UInt8), (61 : UInt8), (61 : UInt8), (61 : UInt8), (61 : UInt8), (61 : UInt8), (61 : UInt8), (61 : UInt8), (61 : UInt8), (61 : UInt8), (61 :
 UInt8), (61 : UInt8), (61 : UInt8), (61 : UInt8), (61 : UInt8), (61 : UInt8), (61 : UInt8), (61 : UInt8), (61 : UInt8), (61 : UInt8), (61 : UInt8), (61 : UInt8), (61 : UInt8), (61 : UInt8), (61 :
 UInt8), (61 : UInt8), (61 : UInt8), (61 : UInt8), (61 : UInt8), (61 : UInt8), (61 : UInt8), (61 : UInt8), (61 : UInt8), (61 : UInt8), (61 : UInt8), (61 : UInt8), (61 : UInt8), (61 : UInt8)]),
 Go.Value.string s] w' fun (v : Go.Value) (w' : Go.World) => ∃ (x : Bool), v = Go.Value.bool x ∧ bif x then ((0 : Int) ≤ Go.IntKind.wrap Go.IntKind.i64 x_1 ∧ Go.IntKind.wrap Go.IntKind.i64 x_1 ≤
 (↑(ByteArray.size (ByteArray.mk #[(61 : UInt8), (61 : UInt8), (61 : UInt8), (61 : UInt8), (61 : UInt8), (61 : UInt8), (61 : UInt8), (61 : UInt8), (61 : UInt8), (61 : UInt8), (61 : UInt8), (61 : UInt8),
 (61 : UInt8), (61 : UInt8), (61 : UInt8), (61 : UInt8), (61 : UInt8), (61 : UInt8), (61 : UInt8), (61 : UInt8), (61 : UInt8), (61 : UInt8), (61 : UInt8), (61 : UInt8), (61 : UInt8), (61 : UInt8), (61 :
 UInt8), (61 : UInt8), (61 : UInt8), (61 : UInt8), (61 : UInt8), (61 : UInt8), (61 : UInt8), (61 : UInt8), (61 : UInt8), (61 : UInt8), (61 : UInt8), (61 : UInt8), (61 : UInt8), (61 : UInt8), (61 :
 UInt8), (61 : UInt8), (61 : UInt8), (61 : UInt8), (61 : UInt8), (61 : UInt8), (61 : UInt8), (61 : UInt8), (61 : UInt8), (61 : UInt8), (61 : UInt8), (61 : UInt8), (61 : UInt8), (61 : UInt8), (61 :
 UInt8), (61 : UInt8), (61 : UInt8), (61 : UInt8), (61 : UInt8), (61 : UInt8), (61 : UInt8), (61 : UInt8), (61 : UInt8), (61 : UInt8), (61 : UInt8), (61 : UInt8), (61 : UInt8), (61 : UInt8), (61 :
 UInt8), (61 : UInt8), (61 : UInt8), (61 : UInt8), (61 : UInt8), (61 : UInt8), (61 : UInt8), (61 : UInt8), (61 : UInt8), (61 : UInt8), (61 : UInt8), (61 : UInt8), (61 : UInt8), (61 : UInt8), (61 :
 UInt8), (61 : UInt8), (61 : UInt8), (61 : UInt8), (61 : UInt8), (61 : UInt8), (61 : UInt8), (61 : UInt8), (61 : UInt8), (61 : UInt8), (61 : UInt8), (61 : UInt8), (61 : UInt8), (61 : UInt8), (61 :
 UInt8), (61 : UInt8), (61 : UInt8), (61 : UInt8), (61 : UInt8), (61 : UInt8), (61 : UInt8), (61 : UInt8), (61 : UInt8), (61 : UInt8), (61 : UInt8), (61 : UInt8), (61 : UInt8), (61 : UInt8), (61 :
 UInt8), (61 : UInt8), (61 : UInt8), (61 : UInt8), (61 : UInt8), (61 : UInt8), (61 : UInt8), (61 : UInt8), (61 : UInt8), (61 : UInt8), (61 : UInt8), (61 : UInt8), (61 : UInt8), (61 : UInt8), (61 :
 UInt8), (61 : UInt8), (61 : UInt8), (61 : UInt8)])) : Int)) ∧ K (Go.Value.string (ByteArray.extract (ByteArray.mk #[(61 : UInt8), (61 : UInt8), (61 : UInt8), (61 : UInt8), (61 : UInt8), (61 : UInt8),
 (61 : UInt8), (61 : UInt8), (61 : UInt8), (61 : UInt8), (61 : UInt8), (61 : UInt8), (61 : UInt8), (61 : UInt8), (61 : UInt8), (61 : UInt8), (61 : UInt8), (61 : UInt8), (61 : UInt8), (61 : UInt8), (61 :
 UInt8), (61 : UInt8), (61 : UInt8), (61 : UInt8), (61 : UInt8), (61 : UInt8), (61 : UInt8), (61 : UInt8), (61 : UInt8), (61 : UInt8), (61 : UInt8), (61 : UInt8), (61 : UInt8), (61 : UInt8), (61 :
 UInt8), (61 : UInt8), (61 : UInt8), (61 : UInt8), (61 : UInt8), (61 : UInt8), (61 : UInt8), (61 : UInt8), (61 : UInt8), (61 : UInt8), (61 : UInt8), (61 : UInt8), (61 : UInt8), (61 : UInt8), (61 :
 UInt8), (61 : UInt8), (61 : UInt8), (61 : UInt8), (61 : UInt8), (61 : UInt8), (61 : UInt8), (61 : UInt8), (61 : UInt8), (61 : UInt8), (61 : UInt8), (61 : UInt8), (61 : UInt8), (61 : UInt8), (61 :
 UInt8), (61 : UInt8), (61 : UInt8), (61 : UInt8), (61 : UInt8), (61 : UInt8), (61 : UInt8), (61 : UInt8), (61 : UInt8), (61 : UInt8), (61 : UInt8), (61 : UInt8), (61 : UInt8), (61 : UInt8), (61 :
 UInt8), (61 : UInt8), (61 : UInt8), (61 : UInt8), (61 : UInt8), (61 : UInt8), (61 : UInt8), (61 : UInt8), (61 : UInt8), (61 : UInt8), (61 : UInt8), (61 : UInt8), (61 : UInt8), (61 : UInt8), (61 :
 UInt8), (61 : UInt8), (61 : UInt8), (61 : UInt8), (61 : UInt8), (61 : UInt8), (61 : UInt8), (61 : UInt8), (61 : UInt8), (61 : UInt8), (61 : UInt8), (61 : UInt8), (61 : UInt8), (61 : UInt8), (61 :
 UInt8), (61 : UInt8), (61 : UInt8), (61 : UInt8), (61 : UInt8), (61 : UInt8), (61 : UInt8), (61 : UInt8), (61 : UInt8), (61 : UInt8), (61 : UInt8), (61 : UInt8), (61 : UInt8), (61 : UInt8), (61 :
 UInt8), (61 : UInt8), (61 : UInt8), (61 : UInt8), (61 : UInt8), (61 : UInt8), (61 : UInt8), (61 : UInt8), (61 : UInt8), (61 : UInt8)]) (0 : Nat) (Int.toNat (Go.IntKind.wrap Go.IntKind.i64 x_1)))) w'
 else bif Decidable.decide (Go.IntKind.wrap Go.IntKind.i64 x_1 ≤ (64 : Int)) then Go.Sx.CallsV Go.Proofs.Try.prog (52 : Nat) #[Go.Value.string (ByteArray.mk #[(9 : UInt8), (9 : UInt8), (9 : UInt8), (9 :
 UInt8), (9 : UInt8), (9 : UInt8), (9 : UInt8), (9 : UInt8), (9 : UInt8), (9 : UInt8), (9 : UInt8), (9 : UInt8), (9 : UInt8), (9 : UInt8), (9 : UInt8), (9 : UInt8), (9 : UInt8), (9 : UInt8), (9 :
 UInt8), (9 : UInt8), (9 : UInt8), (9 : UInt8), (9 : UInt8), (9 : UInt8), (9 : UInt8), (9 : UInt8), (9 : UInt8), (9 : UInt8), (9 : UInt8), (9 : UInt8), (9 : UInt8), (9 : UInt8), (9 : UInt8), (9 :
 UInt8), (9 : UInt8), (9 : UInt8), (9 : UInt8), (9 : UInt8), (9 : UInt8), (9 : UInt8), (9 : UInt8), (9 : UInt8), (9 : UInt8), (9 : UInt8), (9 : UInt8), (9 : UInt8), (9 : UInt8), (9 : UInt8), (9 :
 UInt8), (9 : UInt8), (9 : UInt8), (9 : UInt8), (9 : UInt8), (9 : UInt8), (9 : UInt8), (9 : UInt8), (9 : UInt8), (9 : UInt8), (9 : UInt8), (9 : UInt8), (9 : UInt8), (9 : UInt8), (9 : UInt8), (9 :
 UInt8)]), Go.Value.string s] w' fun (v : Go.Value) (w' : Go.World) => ∃ (x : Bool), v = Go.Value.bool x ∧ bif x then ((0 : Int) ≤ Go.IntKind.wrap Go.IntKind.i64 x_1 ∧ Go.IntKind.wrap Go.IntKind.i64 x_1
 ≤ (↑(ByteArray.size (ByteArray.mk #[(9 : UInt8), (9 : UInt8), (9 : UInt8), (9 : UInt8), (9 : UInt8), (9 : UInt8), (9 : UInt8), (9 : UInt8), (9 : UInt8), (9 : UInt8), (9 : UInt8), (9 : UInt8), (9 :
 UInt8), (9 : UInt8), (9 : UInt8), (9 : UInt8), (9 : UInt8), (9 : UInt8), (9 : UInt8), (9 : UInt8), (9 : UInt8), (9 : UInt8), (9 : UInt8), (9 : UInt8), (9 : UInt8), (9 : UInt8), (9 : UInt8), (9 :
 UInt8), (9 : UInt8), (9 : UInt8), (9 : UInt8), (9 : UInt8), (9 : UInt8), (9 : UInt8), (9 : UInt8), (9 : UInt8), (9 : UInt8), (9 : UInt8), (9 : UInt8), (9 : UInt8), (9 : UInt8), (9 : UInt8), (9 :
 UInt8), (9 : UInt8), (9 : UInt8), (9 : UInt8), (9 : UInt8), (9 : UInt8), (9 : UInt8), (9 : UInt8), (9 : UInt8), (9 : UInt8), (9 : UInt8), (9 : UInt8), (9 : UInt8), (9 : UInt8), (9 : UInt8), (9 :
 UInt8), (9 : UInt8), (9 : UInt8), (9 : UInt8), (9 : UInt8), (9 : UInt8), (9 : UInt8)])) : Int)) ∧ K (Go.Value.string (ByteArray.extract (ByteArray.mk #[(9 : UInt8), (9 : UInt8), (9 : UInt8), (9 :
 UInt8), (9 : UInt8), (9 : UInt8), (9 : UInt8), (9 : UInt8), (9 : UInt8), (9 : UInt8), (9 : UInt8), (9 : UInt8), (9 : UInt8), (9 : UInt8), (9 : UInt8), (9 : UInt8), (9 : UInt8), (9 : UInt8), (9 :
 UInt8), (9 : UInt8), (9 : UInt8), (9 : UInt8), (9 : UInt8), (9 : UInt8), (9 : UInt8), (9 : UInt8), (9 : UInt8), (9 : UInt8), (9 : UInt8), (9 : UInt8), (9 : UInt8), (9 : UInt8), (9 : UInt8), (9 :
 UInt8), (9 : UInt8), (9 : UInt8), (9 : UInt8), (9 : UInt8), (9 : UInt8), (9 : UInt8), (9 : UInt8), (9 : UInt8), (9 : UInt8), (9 : UInt8), (9 : UInt8), (9 : UInt8), (9 : UInt8), (9 : UInt8), (9 :
 UInt8), (9 : UInt8), (9 : UInt8), (9 : UInt8), (9 : UInt8), (9 : UInt8), (9 : UInt8), (9 : UInt8), (9 : UInt8), (9 : UInt8), (9 : UInt8), (9 : UInt8), (9 : UInt8), (9 : UInt8), (9 : UInt8), (9 :
 UInt8)]) (0 : Nat) (Int.toNat (Go.IntKind.wrap Go.IntKind.i64 x_1)))) w' else J w' else J w' else bif Decidable.decide (Go.IntKind.wrap Go.IntKind.i64 x_1 ≤ (64 : Int)) then Go.Sx.CallsV
 Go.Proofs.Try.prog (52 : Nat) #[Go.Value.string (ByteArray.mk #[(9 : UInt8), (9 : UInt8), (9 : UInt8), (9 : UInt8), (9 : UInt8), (9 : UInt8), (9 : UInt8), (9 : UInt8), (9 : UInt8), (9 : UInt8), (9 :
 UInt8), (9 : UInt8), (9 : UInt8), (9 : UInt8), (9 : UInt8), (9 : UInt8), (9 : UInt8), (9 : UInt8), (9 : UInt8), (9 : UInt8), (9 : UInt8), (9 : UInt8), (9 : UInt8), (9 : UInt8), (9 : UInt8), (9 :
 UInt8), (9 : UInt8), (9 : UInt8), (9 : UInt8), (9 : UInt8), (9 : UInt8), (9 : UInt8), (9 : UInt8), (9 : UInt8), (9 : UInt8), (9 : UInt8), (9 : UInt8), (9 : UInt8), (9 : UInt8), (9 : UInt8), (9 :
 UInt8), (9 : UInt8), (9 : UInt8), (9 : UInt8), (9 : UInt8), (9 : UInt8), (9 : UInt8), (9 : UInt8), (9 : UInt8), (9 : UInt8), (9 : UInt8), (9 : UInt8), (9 : UInt8), (9 : UInt8), (9 : UInt8), (9 :
 UInt8), (9 : UInt8), (9 : UInt8), (9 : UInt8), (9 : UInt8), (9 : UInt8), (9 : UInt8), (9 : UInt8), (9 : UInt8)]), Go.Value.string s] w' fun (v : Go.Value) (w' : Go.World) => ∃ (x : Bool), v =
 Go.Value.bool x ∧ bif x then ((0 : Int) ≤ Go.IntKind.wrap Go.IntKind.i64 x_1 ∧ Go.IntKind.wrap Go.IntKind.i64 x_1 ≤ (↑(ByteArray.size (ByteArray.mk #[(9 : UInt8), (9 : UInt8), (9 : UInt8), (9 : UInt8),
 (9 : UInt8), (9 : UInt8), (9 : UInt8), (9 : UInt8), (9 : UInt8), (9 : UInt8), (9 : UInt8), (9 : UInt8), (9 : UInt8), (9 : UInt8), (9 : UInt8), (9 : UInt8), (9 : UInt8), (9 : UInt8), (9 : UInt8), (9 :
 UInt8), (9 : UInt8), (9 : UInt8), (9 : UInt8), (9 : UInt8), (9 : UInt8), (9 : UInt8), (9 : UInt8), (9 : UInt8), (9 : UInt8), (9 : UInt8), (9 : UInt8), (9 : UInt8), (9 : UInt8), (9 : UInt8), (9 :
 UInt8), (9 : UInt8), (9 : UInt8), (9 : UInt8), (9 : UInt8), (9 : UInt8), (9 : UInt8), (9 : UInt8), (9 : UInt8), (9 : UInt8), (9 : UInt8), (9 : UInt8), (9 : UInt8), (9 : UInt8), (9 : UInt8), (9 :
 UInt8), (9 : UInt8), (9 : UInt8), (9 : UInt8), (9 : UInt8), (9 : UInt8), (9 : UInt8), (9 : UInt8), (9 : UInt8), (9 : UInt8), (9 : UInt8), (9 : UInt8), (9 : UInt8), (9 : UInt8), (9 : UInt8)])) : Int)) ∧
 K (Go.Value.string (ByteArray.extract (ByteArray.mk #[(9 : UInt8), (9 : UInt8), (9 : UInt8), (9 : UInt8), (9 : UInt8), (9 : UInt8), (9 : UInt8), (9 : UInt8), (9 : UInt8), (9 : UInt8), (9 : UInt8), (9 :
 UInt8), (9 : UInt8), (9 : UInt8), (9 : UInt8), (9 : UInt8), (9 : UInt8), (9 : UInt8), (9 : UInt8), (9 : UInt8), (9 : UInt8), (9 : UInt8), (9 : UInt8), (9 : UInt8), (9 : UInt8), (9 : UInt8), (9 :
 UInt8), (9 : UInt8), (9 : UInt8), (9 : UInt8), (9 : UInt8), (9 : UInt8), (9 : UInt8), (9 : UInt8), (9 : UInt8), (9 : UInt8), (9 : UInt8), (9 : UInt8), (9 : UInt8), (9 : UInt8), (9 : UInt8), (9 :
 UInt8), (9 : UInt8), (9 : UInt8), (9 : UInt8), (9 : UInt8), (9 : UInt8), (9 : UInt8), (9 : UInt8), (9 : UInt8), (9 : UInt8), (9 : UInt8), (9 : UInt8), (9 : UInt8), (9 : UInt8), (9 : UInt8), (9 :
 UInt8), (9 : UInt8), (9 : UInt8), (9 : UInt8), (9 : UInt8), (9 : UInt8), (9 : UInt8), (9 : UInt8)]) (0 : Nat) (Int.toNat (Go.IntKind.wrap Go.IntKind.i64 x_1)))) w' else J w' else J w' else bif
 Decidable.decide (Go.IntKind.wrap Go.IntKind.i64 x_1 ≤ (128 : Int)) then Go.Sx.CallsV Go.Proofs.Try.prog (52 : Nat) #[Go.Value.string (ByteArray.mk #[(45 : UInt8), (45 : UInt8), (45 : UInt8), (45 :
 UInt8), (45 : UInt8), (45 : UInt8), (45 : UInt8), (45 : UInt8), (45 : UInt8), (45 : UInt8), (45 : UInt8), (45 : UInt8), (45 : UInt8), (45 : UInt8), (45 : UInt8), (45 : UInt8), (45 : UInt8), (45 :
 UInt8), (45 : UInt8), (45 : UInt8), (45 : UInt8), (45 : UInt8), (45 : UInt8), (45 : UInt8), (45 : UInt8), (45 : UInt8), (45 : UInt8), (45 : UInt8), (45 : UInt8), (45 : UInt8), (45 : UInt8), (45 :
 UInt8), (45 : UInt8), (45 : UInt8), (45 : UInt8), (45 : UInt8), (45 : UInt8), (45 : UInt8), (45 : UInt8), (45 : UInt8), (45 : UInt8), (45 : UInt8), (45 : UInt8), (45 : UInt8), (45 : UInt8), (45 :
 UInt8), (45 : UInt8), (45 : UInt8), (45 : UInt8), (45 : UInt8), (45 : UInt8), (45 : UInt8), (45 : UInt8), (45 : UInt8), (45 : UInt8), (45 : UInt8), (45 : UInt8), (45 : UInt8), (45 : UInt8), (45 :
 UInt8), (45 : UInt8), (45 : UInt8), (45 : UInt8), (45 : UInt8), (45 : UInt8), (45 : UInt8), (45 : UInt8), (45 : UInt8), (45 : UInt8), (45 : UInt8), (45 : UInt8), (45 : UInt8), (45 : UInt8), (45 :
 UInt8), (45 : UInt8), (45 : UInt8), (45 : UInt8), (45 : UInt8), (45 : UInt8), (45 : UInt8), (45 : UInt8), (45 : UInt8), (45 : UInt8), (45 : UInt8), (45 : UInt8), (45 : UInt8), (45 : UInt8), (45 :
 UInt8), (45 : UInt8), (45 : UInt8), (45 : UInt8), (45 : UInt8), (45 : UInt8), (45 : UInt8), (45 : UInt8), (45 : UInt8), (45 : UInt8), (45 : UInt8), (45 : UInt8), (45 : UInt8), (45 : UInt8), (45 :
 UInt8), (45 : UInt8), (45 : UInt8), (45 : UInt8), (45 : UInt8), (45 : UInt8), (45 : UInt8), (45 : UInt8), (45 : UInt8), (45 : UInt8), (45 : UInt8), (45 : UInt8), (45 : UInt8), (45 : UInt8), (45 :
 UInt8), (45 : UInt8), (45 : UInt8), (45 : UInt8), (45 : UInt8), (45 : UInt8), (45 : UInt8), (45 : UInt8), (45 : UInt8), (45 : UInt8), (45 : UInt8), (45 : UInt8), (45 : UInt8)]), Go.Value.string s] w
 fun (v : Go.Value) (w' : Go.World) => ∃ (x : Bool), v = Go.Value.bool x ∧ bif x then ((0 : Int) ≤ Go.IntKind.wrap Go.IntKind.i64 x_1 ∧ Go.IntKind.wrap Go.IntKind.i64 x_1 ≤ (↑(ByteArray.size
 (ByteArray.mk #[(45 : UInt8), (45 : UInt8), (45 : UInt8), (45 : UInt8), (45 : UInt8), (45 : UInt8), (45 : UInt8), (45 : UInt8), (45 : UInt8), (45 : UInt8), (45 : UInt8), (45 : UInt8), (45 : UInt8), (45
 : UInt8), (45 : UInt8), (45 : UInt8), (45 : UInt8), (45 : UInt8), (45 : UInt8), (45 : UInt8), (45 : UInt8), (45 : UInt8), (45 : UInt8), (45 : UInt8), (45 : UInt8), (45 : UInt8), (45 : UInt8), (45 :
 UInt8), (45 : UInt8), (45 : UInt8), (45 : UInt8), (45 : UInt8), (45 : UInt8), (45 : UInt8), (45 : UInt8), (45 : UInt8), (45 : UInt8), (45 : UInt8), (45 : UInt8), (45 : UInt8), (45 : UInt8), (45 :
 UInt8), (45 : UInt8), (45 : UInt8), (45 : UInt8), (45 : UInt8), (45 : UInt8), (45 : UInt8), (45 : UInt8), (45 : UInt8), (45 : UInt8), (45 : UInt8), (45 : UInt8), (45 : UInt8), (45 : UInt8), (45 :
 UInt8), (45 : UInt8), (45 : UInt8), (45 : UInt8), (45 : UInt8), (45 : UInt8), (45 : UInt8), (45 : UInt8), (45 : UInt8), (45 : UInt8), (45 : UInt8), (45 : UInt8), (45 : UInt8), (45 : UInt8), (45 :
 UInt8), (45 : UInt8), (45 : UInt8), (45 : UInt8), (45 : UInt8), (45 : UInt8), (45 : UInt8), (45 : UInt8), (45 : UInt8), (45 : UInt8), (45 : UInt8), (45 : UInt8), (45 : UInt8), (45 : UInt8), (45 :
 UInt8), (45 : UInt8), (45 : UInt8), (45 : UInt8), (45 : UInt8), (45 : UInt8), (45 : UInt8), (45 : UInt8), (45 : UInt8), (45 : UInt8), (45 : UInt8), (45 : UInt8), (45 : UInt8), (45 : UInt8), (45 :
 UInt8), (45 : UInt8), (45 : UInt8), (45 : UInt8), (45 : UInt8), (45 : UInt8), (45 : UInt8), (45 : UInt8), (45 : UInt8), (45 : UInt8), (45 : UInt8), (45 : UInt8), (45 : UInt8), (45 : UInt8), (45 :
 UInt8), (45 : UInt8), (45 : UInt8), (45 : UInt8), (45 : UInt8), (45 : UInt8), (45 : UInt8), (45 : UInt8), (45 : UInt8), (45 : UInt8), (45 : UInt8), (45 : UInt8), (45 : UInt8), (45 : UInt8), (45 :
 UInt8), (45 : UInt8), (45 : UInt8)])) : Int)) ∧ K (Go.Value.string (ByteArray.extract (ByteArray.mk #[(45 : UInt8), (45 : UInt8), (45 : UInt8), (45 : UInt8), (45 : UInt8), (45 : UInt8), (45 : UInt8),
 (45 : UInt8), (45 : UInt8), (45 : UInt8), (45 : UInt8), (45 : UInt8), (45 : UInt8), (45 : UInt8), (45 : UInt8), (45 : UInt8), (45 : UInt8), (45 : UInt8), (45 : UInt8), (45 : UInt8), (45 : UInt8), (45 :
 UInt8), (45 : UInt8), (45 : UInt8), (45 : UInt8), (45 : UInt8), (45 : UInt8), (45 : UInt8), (45 : UInt8), (45 : UInt8), (45 : UInt8), (45 : UInt8), (45 : UInt8), (45 : UInt8), (45 : UInt8), (45 :
 UInt8), (45 : UInt8), (45 : UInt8), (45 : UInt8), (45 : UInt8), (45 : UInt8), (45 : UInt8), (45 : UInt8), (45 : UInt8), (45 : UInt8), (45 : UInt8), (45 : UInt8), (45 : UInt8), (45 : UInt8), (45 :
 UInt8), (45 : UInt8), (45 : UInt8), (45 : UInt8), (45 : UInt8), (45 : UInt8), (45 : UInt8), (45 : UInt8), (45 : UInt8), (45 : UInt8), (45 : UInt8), (45 : UInt8), (45 : UInt8), (45 : UInt8), (45 :
 UInt8), (45 : UInt8), (45 : UInt8), (45 : UInt8), (45 : UInt8), (45 : UInt8), (45 : UInt8), (45 : UInt8), (45 : UInt8), (45 : UInt8), (45 : UInt8), (45 : UInt8), (45 : UInt8), (45 : UInt8), (45 :
 UInt8), (45 : UInt8), (45 : UInt8), (45 : UInt8), (45 : UInt8), (45 : UInt8), (45 : UInt8), (45 : UInt8), (45 : UInt8), (45 : UInt8), (45 : UInt8), (45 : UInt8), (45 : UInt8), (45 : UInt8), (45 :
 UInt8), (45 : UInt8), (45 : UInt8), (45 : UInt8), (45 : UInt8), (45 : UInt8), (45 : UInt8), (45 : UInt8), (45 : UInt8), (45 : UInt8), (45 : UInt8), (45 : UInt8), (45 : UInt8), (45 : UInt8), (45 :
 UInt8), (45 : UInt8), (45 : UInt8), (45 : UInt8), (45 : UInt8), (45 : UInt8), (45 : UInt8), (45 : UInt8), (45 : UInt8), (45 : UInt8), (45 : UInt8), (45 : UInt8), (45 : UInt8), (45 : UInt8), (45 :
 UInt8), (45 : UInt8), (45 : UInt8), (45 : UInt8), (45 : UInt8), (45 : UInt8), (45 : UInt8), (45 : UInt8), (45 : UInt8)]) (0 : Nat) (Int.toNat (Go.IntKind.wrap Go.IntKind.i64 x_1)))) w' else bif
 Decidable.decide (Go.IntKind.wrap Go.IntKind.i64 x_1 ≤ (64 : Int)) then Go.Sx.CallsV Go.Proofs.Try.prog (52 : Nat) #[Go.Value.string (ByteArray.mk #[(48 : UInt8), (48 : UInt8), (48 : UInt8), (48 :
 UInt8), (48 : UInt8), (48 : UInt8), (48 : UInt8), (48 : UInt8), (48 : UInt8), (48 : UInt8), (48 : UInt8), (48 : UInt8), (48 : UInt8), (48 : UInt8), (48 : UInt8), (48 : UInt8), (48 : UInt8), (48 :
 UInt8), (48 : UInt8), (48 : UInt8), (48 : UInt8), (48 : UInt8), (48 : UInt8), (48 : UInt8), (48 : UInt8), (48 : UInt8), (48 : UInt8), (48 : UInt8), (48 : UInt8), (48 : UInt8), (48 : UInt8), (48 :
 UInt8), (48 : UInt8), (48 : UInt8), (48 : UInt8), (48 : UInt8), (48 : UInt8), (48 : UInt8), (48 : UInt8), (48 : UInt8), (48 : UInt8), (48 : UInt8), (48 : UInt8), (48 : UInt8), (48 : UInt8), (48 :
 UInt8), (48 : UInt8), (48 : UInt8), (48 : UInt8), (48 : UInt8), (48 : UInt8), (48 : UInt8), (48 : UInt8), (48 : UInt8), (48 : UInt8), (48 : UInt8), (48 : UInt8), (48 : UInt8), (48 : UInt8), (48 :
 UInt8), (48 : UInt8), (48 : UInt8), (48 : UInt8), (48 : UInt8)]), Go.Value.string s] w' fun (v : Go.Value) (w' : Go.World) => ∃ (x : Bool), v = Go.Value.bool x ∧ bif x then ((0 : Int) ≤ Go.IntKind.wrap
 Go.IntKind.i64 x_1 ∧ Go.IntKind.wrap Go.IntKind.i64 x_1 ≤ (↑(ByteArray.size (ByteArray.mk #[(48 : UInt8), (48 : UInt8), (48 : UInt8), (48 : UInt8), (48 : UInt8), (48 : UInt8), (48 : UInt8), (48 :
 UInt8), (48 : UInt8), (48 : UInt8), (48 : UInt8), (48 : UInt8), (48 : UInt8), (48 : UInt8), (48 : UInt8), (48 : UInt8), (48 : UInt8), (48 : UInt8), (48 : UInt8), (48 : UInt8), (48 : UInt8), (48 :
 UInt8), (48 : UInt8), (48 : UInt8), (48 : UInt8), (48 : UInt8), (48 : UInt8), (48 : UInt8), (48 : UInt8), (48 : UInt8), (48 : UInt8), (48 : UInt8), (48 : UInt8), (48 : UInt8), (48 : UInt8), (48 :
 UInt8), (48 : UInt8), (48 : UInt8), (48 : UInt8), (48 : UInt8), (48 : UInt8), (48 : UInt8), (48 : UInt8), (48 : UInt8), (48 : UInt8), (48 : UInt8), (48 : UInt8), (48 : UInt8), (48 : UInt8), (48 :
 UInt8), (48 : UInt8), (48 : UInt8), (48 : UInt8), (48 : UInt8), (48 : UInt8), (48 : UInt8), (48 : UInt8), (48 : UInt8), (48 : UInt8), (48 : UInt8), (48 : UInt8), (48 : UInt8), (48 : UInt8), (48 :
 UInt8)])) : Int)) ∧ K (Go.Value.string (ByteArray.extract (ByteArray.mk #[(48 : UInt8), (48 : UInt8), (48 : UInt8), (48 : UInt8), (48 : UInt8), (48 : UInt8), (48 : UInt8), (48 : UInt8), (48 : UInt8),
 (48 : UInt8), (48 : UInt8), (48 : UInt8), (48 : UInt8), (48 : UInt8), (48 : UInt8), (48 : UInt8), (48 : UInt8), (48 : UInt8), (48 : UInt8), (48 : UInt8), (48 : UInt8), (48 : UInt8), (48 : UInt8), (48 :
 UInt8), (48 : UInt8), (48 : UInt8), (48 : UInt8), (48 : UInt8), (48 : UInt8), (48 : UInt8), (48 : UInt8), (48 : UInt8), (48 : UInt8), (48 : UInt8), (48 : UInt8), (48 : UInt8), (48 : UInt8), (48 :
 UInt8), (48 : UInt8), (48 : UInt8), (48 : UInt8), (48 : UInt8), (48 : UInt8), (48 : UInt8), (48 : UInt8), (48 : UInt8), (48 : UInt8), (48 : UInt8), (48 : UInt8), (48 : UInt8), (48 : UInt8), (48 :
 UInt8), (48 : UInt8), (48 : UInt8), (48 : UInt8), (48 : UInt8), (48 : UInt8), (48 : UInt8), (48 : UInt8), (48 : UInt8), (48 : UInt8), (48 : UInt8), (48 : UInt8), (48 : UInt8)]) (0 : Nat) (Int.toNat
 (Go.IntKind.wrap Go.IntKind.i64 x_1)))) w' else bif Decidable.decide (Go.IntKind.wrap Go.IntKind.i64 x_1 ≤ (128 : Int)) then Go.Sx.CallsV Go.Proofs.Try.prog (52 : Nat) #[Go.Value.string (ByteArray.mk
 #[(61 : UInt8), (61 : UInt8), (61 : UInt8), (61 : UInt8), (61 : UInt8), (61 : UInt8), (61 : UInt8), (61 : UInt8), (61 : UInt8), (61 : UInt8), (61 : UInt8), (61 : UInt8), (61 : UInt8), (61 : UInt8), (61
 : UInt8), (61 : UInt8), (61 : UInt8), (61 : UInt8), (61 : UInt8), (61 : UInt8), (61 : UInt8), (61 : UInt8), (61 : UInt8), (61 : UInt8), (61 : UInt8), (61 : UInt8), (61 : UInt8), (61 : UInt8), (61 :
 UInt8), (61 : UInt8), (61 : UInt8), (61 : UInt8), (61 : UInt8), (61 : UInt8), (61 : UInt8), (61 : UInt8), (61 : UInt8), (61 : UInt8), (61 : UInt8), (61 : UInt8), (61 : UInt8), (61 : UInt8), (61 :
 UInt8), (61 : UInt8), (61 : UInt8), (61 : UInt8), (61 : UInt8), (61 : UInt8), (61 : UInt8), (61 : UInt8), (61 : UInt8), (61 : UInt8), (61 : UInt8), (61 : UInt8), (61 : UInt8), (61 : UInt8), (61 :
 UInt8), (61 : UInt8), (61 : UInt8), (61 : UInt8), (61 : UInt8), (61 : UInt8), (61 : UInt8), (61 : UInt8), (61 : UInt8), (61 : UInt8), (61 : UInt8), (61 : UInt8), (61 : UInt8), (61 : UInt8), (61 :
 UInt8), (61 : UInt8), (61 : UInt8), (61 : UInt8), (61 : UInt8), (61 : UInt8), (61 : UInt8), (61 : UInt8), (61 : UInt8), (61 : UInt8), (61 : UInt8), (61 : UInt8), (61 : UInt8), (61 : UInt8), (61 :
 UInt8), (61 : UInt8), (61 : UInt8), (61 : UInt8), (61 : UInt8), (61 : UInt8), (61 : UInt8), (61 : UInt8), (61 : UInt8), (61 : UInt8), (61 : UInt8), (61 : UInt8), (61 : UInt8), (61 : UInt8), (61 :
 UInt8), (61 : UInt8), (61 : UInt8), (61 : UInt8), (61 : UInt8), (61 : UInt8), (61 : UInt8), (61 : UInt8), (61 : UInt8), (61 : UInt8), (61 : UInt8), (61 : UInt8), (61 : UInt8), (61 : UInt8), (61 :
 UInt8), (61 : UInt8), (61 : UInt8), (61 : UInt8), (61 : UInt8), (61 : UInt8), (61 : UInt8), (61 : UInt8), (61 : UInt8), (61 : UInt8), (61 : UInt8), (61 : UInt8), (61 : UInt8), (61 : UInt8), (61 :
 UInt8), (61 : UInt8)]), Go.Value.string s] w' fun (v : Go.Value) (w' : Go.World) => ∃ (x : Bool), v = Go.Value.bool x ∧ bif x then ((0 : Int) ≤ Go.IntKind.wrap Go.IntKind.i64 x_1 ∧ Go.IntKind.wrap
 Go.IntKind.i64 x_1 ≤ (↑(ByteArray.size (ByteArray.mk #[(61 : UInt8), (61 : UInt8), (61 : UInt8), (61 : UInt8), (61 : UInt8), (61 : UInt8), (61 : UInt8), (61 : UInt8), (61 : UInt8), (61 : UInt8), (61 :
 UInt8), (61 : UInt8), (61 : UInt8), (61 : UInt8), (61 : UInt8), (61 : UInt8), (61 : UInt8), (61 : UInt8), (61 : UInt8), (61 : UInt8), (61 : UInt8), (61 : UInt8), (61 : UInt8), (61 : UInt8), (61 :
 UInt8), (61 : UInt8), (61 : UInt8), (61 : UInt8), (61 : UInt8), (61 : UInt8), (61 : UInt8), (61 : UInt8), (61 : UInt8), (61 : UInt8), (61 : UInt8), (61 : UInt8), (61 : UInt8), (61 : UInt8), (61 :
 UInt8), (61 : UInt8), (61 : UInt8), (61 : UInt8), (61 : UInt8), (61 : UInt8), (61 : UInt8), (61 : UInt8), (61 : UInt8), (61 : UInt8), (61 : UInt8), (61 : UInt8), (61 : UInt8), (61 : UInt8), (61 :
 UInt8), (61 : UInt8), (61 : UInt8), (61 : UInt8), (61 : UInt8), (61 : UInt8), (61 : UInt8), (61 : UInt8), (61 : UInt8), (61 : UInt8), (61 : UInt8), (61 : UInt8), (61 : UInt8), (61 : UInt8), (61 :
 UInt8), (61 : UInt8), (61 : UInt8), (61 : UInt8), (61 : UInt8), (61 : UInt8), (61 : UInt8), (61 : UInt8), (61 : UInt8), (61 : UInt8), (61 : UInt8), (61 : UInt8), (61 : UInt8), (61 : UInt8), (61 :
 UInt8), (61 : UInt8), (61 : UInt8), (61 : UInt8), (61 : UInt8), (61 : UInt8), (61 : UInt8), (61 : UInt8), (61 : UInt8), (61 : UInt8), (61 : UInt8), (61 : UInt8), (61 : UInt8), (61 : UInt8), (61 :
 UInt8), (61 : UInt8), (61 : UInt8), (61 : UInt8), (61 : UInt8), (61 : UInt8), (61 : UInt8), (61 : UInt8), (61 : UInt8), (61 : UInt8), (61 : UInt8), (61 : UInt8), (61 : UInt8), (61 : UInt8), (61 :
 UInt8), (61 : UInt8), (61 : UInt8), (61 : UInt8), (61 : UInt8), (61 : UInt8), (61 : UInt8), (61 : UInt8), (61 : UInt8), (61 : UInt8), (61 : UInt8), (61 : UInt8), (61 : UInt8), (61 : UInt8), (61 :
 UInt8), (61 : UInt8), (61 : UInt8), (61 : UInt8), (61 : UInt8), (61 : UInt8)])) : Int)) ∧ K (Go.Value.string (ByteArray.extract (ByteArray.mk #[(61 : UInt8), (61 : UInt8), (61 : UInt8), (61 : UInt8),
 (61 : UInt8), (61 : UInt8), (61 : UInt8), (61 : UInt8), (61 : UInt8), (61 : UInt8), (61 : UInt8), (61 : UInt8), (61 : UInt8), (61 : UInt8), (61 : UInt8), (61 : UInt8), (61 : UInt8), (61 : UInt8), (61 :
 UInt8), (61 : UInt8), (61 : UInt8), (61 : UInt8), (61 : UInt8), (61 : UInt8), (61 : UInt8), (61 : UInt8), (61 : UInt8), (61 : UInt8), (61 : UInt8), (61 : UInt8), (61 : UInt8), (61 : UInt8), (61 :
 UInt8), (61 : UInt8), (61 : UInt8), (61 : UInt8), (61 : UInt8), (61 : UInt8), (61 : UInt8), (61 : UInt8), (61 : UInt8), (61 : UInt8), (61 : UInt8), (61 : UInt8), (61 : UInt8), (61 : UInt8), (61 :
 UInt8), (61 : UInt8), (61 : UInt8), (61 : UInt8), (61 : UInt8), (61 : UInt8), (61 : UInt8), (61 : UInt8), (61 : UInt8), (61 : UInt8), (61 : UInt8), (61 : UInt8), (61 : UInt8), (61 : UInt8), (61 :
 UInt8), (61 : UInt8), (61 : UInt8), (61 : UInt8), (61 : UInt8), (61 : UInt8), (61 : UInt8), (61 : UInt8), (61 : UInt8), (61 : UInt8), (61 : UInt8), (61 : UInt8), (61 : UInt8), (61 : UInt8), (61 :
 UInt8), (61 : UInt8), (61 : UInt8), (61 : UInt8), (61 : UInt8), (61 : UInt8), (61 : UInt8), (61 : UInt8), (61 : UInt8), (61 : UInt8), (61 : UInt8), (61 : UInt8), (61 : UInt8), (61 : UInt8), (61 :
 UInt8), (61 : UInt8), (61 : UInt8), (61 : UInt8), (61 : UInt8), (61 : UInt8), (61 : UInt8), (61 : UInt8), (61 : UInt8), (61 : UInt8), (61 : UInt8), (61 : UInt8), (61 : UInt8), (61 : UInt8), (61 :
 UInt8), (61 : UInt8), (61 : UInt8), (61 : UInt8), (61 : UInt8), (61 : UInt8), (61 : UInt8), (61 : UInt8), (61 : UInt8), (61 : UInt8), (61 : UInt8), (61 : UInt8), (61 : UInt8), (61 : UInt8), (61 :
 UInt8), (61 : UInt8), (61 : UInt8), (61 : UInt8), (61 : UInt8), (61 : UInt8), (61 : UInt8), (61 : UInt8), (61 : UInt8), (61 : UInt8), (61 : UInt8), (61 : UInt8)]) (0 : Nat) (Int.toNat (Go.IntKind.wrap
 Go.IntKind.i64 x_1)))) w' else bif Decidable.decide (Go.IntKind.wrap Go.IntKind.i64 x_1 ≤ (64 : Int)) then Go.Sx.CallsV Go.Proofs.Try.prog (52 : Nat) #[Go.Value.string (ByteArray.mk #[(9 : UInt8), (9 :
 UInt8), (9 : UInt8), (9 : UInt8), (9 : UInt8), (9 : UInt8), (9 : UInt8), (9 : UInt8), (9 : UInt8), (9 : UInt8), (9 : UInt8), (9 : UInt8), (9 : UInt8), (9 : UInt8), (9 : UInt8), (9 : UInt8), (9 :
 UInt8), (9 : UInt8), (9 : UInt8), (9 : UInt8), (9 : UInt8), (9 : UInt8), (9 : UInt8), (9 : UInt8), (9 : UInt8), (9 : UInt8), (9 : UInt8), (9 : UInt8), (9 : UInt8), (9 : UInt8), (9 : UInt8), (9 :
 UInt8), (9 : UInt8), (9 : UInt8), (9 : UInt8), (9 : UInt8), (9 : UInt8), (9 : UInt8), (9 : UInt8), (9 : UInt8), (9 : UInt8), (9 : UInt8), (9 : UInt8), (9 : UInt8), (9 : UInt8), (9 : UInt8), (9 :
 UInt8), (9 : UInt8), (9 : UInt8), (9 : UInt8), (9 : UInt8), (9 : UInt8), (9 : UInt8), (9 : UInt8), (9 : UInt8), (9 : UInt8), (9 : UInt8), (9 : UInt8), (9 : UInt8), (9 : UInt8), (9 : UInt8), (9 :
 UInt8), (9 : UInt8), (9 : UInt8)]), Go.Value.string s] w' fun (v : Go.Value) (w' : Go.World) => ∃ (x : Bool), v = Go.Value.bool x ∧ bif x then ((0 : Int) ≤ Go.IntKind.wrap Go.IntKind.i64 x_1 ∧
 Go.IntKind.wrap Go.IntKind.i64 x_1 ≤ (↑(ByteArray.size (ByteArray.mk #[(9 : UInt8), (9 : UInt8), (9 : UInt8), (9 : UInt8), (9 : UInt8), (9 : UInt8), (9 : UInt8), (9 : UInt8), (9 : UInt8), (9 : UInt8),
 (9 : UInt8), (9 : UInt8), (9 : UInt8), (9 : UInt8), (9 : UInt8), (9 : UInt8), (9 : UInt8), (9 : UInt8), (9 : UInt8), (9 : UInt8), (9 : UInt8), (9 : UInt8), (9 : UInt8), (9 : UInt8), (9 : UInt8), (9 :
 UInt8), (9 : UInt8), (9 : UInt8), (9 : UInt8), (9 : UInt8), (9 : UInt8), (9 : UInt8), (9 : UInt8), (9 : UInt8), (9 : UInt8), (9 : UInt8), (9 : UInt8), (9 : UInt8), (9 : UInt8), (9 : UInt8), (9 :
 UInt8), (9 : UInt8), (9 : UInt8), (9 : UInt8), (9 : UInt8), (9 : UInt8), (9 : UInt8), (9 : UInt8), (9 : UInt8), (9 : UInt8), (9 : UInt8), (9 : UInt8), (9 : UInt8), (9 : UInt8), (9 : UInt8), (9 :
 UInt8), (9 : UInt8), (9 : UInt8), (9 : UInt8), (9 : UInt8), (9 : UInt8), (9 : UInt8), (9 : UInt8), (9 : UInt8)])) : Int)) ∧ K (Go.Value.string (ByteArray.extract (ByteArray.mk #[(9 : UInt8), (9 :
 UInt8), (9 : UInt8), (9 : UInt8), (9 : UInt8), (9 : UInt8), (9 : UInt8), (9 : UInt8), (9 : UInt8), (9 : UInt8), (9 : UInt8), (9 : UInt8), (9 : UInt8), (9 : UInt8), (9 : UInt8), (9 : UInt8), (9 :
 UInt8), (9 : UInt8), (9 : UInt8), (9 : UInt8), (9 : UInt8), (9 : UInt8), (9 : UInt8), (9 : UInt8), (9 : UInt8), (9 : UInt8), (9 : UInt8), (9 : UInt8), (9 : UInt8), (9 : UInt8), (9 : UInt8), (9 :
 UInt8), (9 : UInt8), (9 : UInt8), (9 : UInt8), (9 : UInt8), (9 : UInt8), (9 : UInt8), (9 : UInt8), (9 : UInt8), (9 : UInt8), (9 : UInt8), (9 : UInt8), (9 : UInt8), (9 : UInt8), (9 : UInt8), (9 :
 UInt8), (9 : UInt8), (9 : UInt8), (9 : UInt8), (9 : UInt8), (9 : UInt8), (9 : UInt8), (9 : UInt8), (9 : UInt8), (9 : UInt8), (9 : UInt8), (9 : UInt8), (9 : UInt8), (9 : UInt8), (9 : UInt8), (9 :
 UInt8), (9 : UInt8), (9 : UInt8)]) (0 : Nat) (Int.toNat (Go.IntKind.wrap Go.IntKind.i64 x_1)))) w' else J w' else J w' else bif Decidable.decide (Go.IntKind.wrap Go.IntKind.i64 x_1 ≤ (64 : Int)) then
 Go.Sx.CallsV Go.Proofs.Try.prog (52 : Nat) #[Go.Value.string (ByteArray.mk #[(9 : UInt8), (9 : UInt8), (9 : UInt8), (9 : UInt8), (9 : UInt8), (9 : UInt8), (9 : UInt8), (9 : UInt8), (9 : UInt8), (9 :
 UInt8), (9 : UInt8), (9 : UInt8), (9 : UInt8), (9 : UInt8), (9 : UInt8), (9 : UInt8), (9 : UInt8), (9 : UInt8), (9 : UInt8), (9 : UInt8), (9 : UInt8), (9 : UInt8), (9 : UInt8), (9 : UInt8), (9 :
 UInt8), (9 : UInt8), (9 : UInt8), (9 : UInt8), (9 : UInt8), (9 : UInt8), (9 : UInt8), (9 : UInt8), (9 : UInt8), (9 : UInt8), (9 : UInt8), (9 : UInt8), (9 : UInt8), (9 : UInt8), (9 : UInt8), (9 :
 UInt8), (9 : UInt8), (9 : UInt8), (9 : UInt8), (9 : UInt8), (9 : UInt8), (9 : UInt8), (9 : UInt8), (9 : UInt8), (9 : UInt8), (9 : UInt8), (9 : UInt8), (9 : UInt8), (9 : UInt8), (9 : UInt8), (9 :
 UInt8), (9 : UInt8), (9 : UInt8), (9 : UInt8), (9 : UInt8), (9 : UInt8), (9 : UInt8), (9 : UInt8), (9 : UInt8), (9 : UInt8)]), Go.Value.string s] w' fun (v : Go.Value) (w' : Go.World) => ∃ (x : Bool),
 v = Go.Value.bool x ∧ bif x then ((0 : Int) ≤ Go.IntKind.wrap Go.IntKind.i64 x_1 ∧ Go.IntKind.wrap Go.IntKind.i64 x_1 ≤ (↑(ByteArray.size (ByteArray.mk #[(9 : UInt8), (9 : UInt8), (9 : UInt8), (9 :
 UInt8), (9 : UInt8), (9 : UInt8), (9 : UInt8), (9 : UInt8), (9 : UInt8), (9 : UInt8), (9 : UInt8), (9 : UInt8), (9 : UInt8), (9 : UInt8), (9 : UInt8), (9 : UInt8), (9 : UInt8), (9 : UInt8), (9 :
 UInt8), (9 : UInt8), (9 : UInt8), (9 : UInt8), (9 : UInt8), (9 : UInt8), (9 : UInt8), (9 : UInt8), (9 : UInt8), (9 : UInt8), (9 : UInt8), (9 : UInt8), (9 : UInt8), (9 : UInt8), (9 : UInt8), (9 :
 UInt8), (9 : UInt8), (9 : UInt8), (9 : UInt8), (9 : UInt8), (9 : UInt8), (9 : UInt8), (9 : UInt8), (9 : UInt8), (9 : UInt8), (9 : UInt8), (9 : UInt8), (9 : UInt8), (9 : UInt8), (9 : UInt8), (9 :
 UInt8), (9 : UInt8), (9 : UInt8), (9 : UInt8), (9 : UInt8), (9 : UInt8), (9 : UInt8), (9 : UInt8), (9 : UInt8), (9 : UInt8), (9 : UInt8), (9 : UInt8), (9 : UInt8), (9 : UInt8), (9 : UInt8), (9 :
 UInt8)])) : Int)) ∧ K (Go.Value.string (ByteArray.extract (ByteArray.mk #[(9 : UInt8), (9 : UInt8), (9 : UInt8), (9 : UInt8), (9 : UInt8), (9 : UInt8), (9 : UInt8), (9 : UInt8), (9 : UInt8), (9 :
 UInt8), (9 : UInt8), (9 : UInt8), (9 : UInt8), (9 : UInt8), (9 : UInt8), (9 : UInt8), (9 : UInt8), (9 : UInt8), (9 : UInt8), (9 : UInt8), (9 : UInt8), (9 : UInt8), (9 : UInt8), (9 : UInt8), (9 :
 UInt8), (9 : UInt8), (9 : UInt8), (9 : UInt8), (9 : UInt8), (9 : UInt8), (9 : UInt8), (9 : UInt8), (9 : UInt8), (9 : UInt8), (9 : UInt8), (9 : UInt8), (9 : UInt8), (9 : UInt8), (9 : UInt8), (9 :
 UInt8), (9 : UInt8), (9 : UInt8), (9 : UInt8), (9 : UInt8), (9 : UInt8), (9 : UInt8), (9 : UInt8), (9 : UInt8), (9 : UInt8), (9 : UInt8), (9 : UInt8), (9 : UInt8), (9 : UInt8), (9 : UInt8), (9 :
 UInt8), (9 : UInt8), (9 : UInt8), (9 : UInt8), (9 : UInt8), (9 : UInt8), (9 : UInt8), (9 : UInt8), (9 : UInt8), (9 : UInt8)]) (0 : Nat) (Int.toNat (Go.IntKind.wrap Go.IntKind.i64 x_1)))) w' else J w'
 else J w' else bif Decidable.decide (Go.IntKind.wrap Go.IntKind.i64 x_1 ≤ (128 : Int)) then Go.Sx.CallsV Go.Proofs.Try.prog (52 : Nat) #[Go.Value.string (ByteArray.mk #[(61 : UInt8), (61 : UInt8), (61
 : UInt8), (61 : UInt8), (61 : UInt8), (61 : UInt8), (61 : UInt8), (61 : UInt8), (61 : UInt8), (61 : UInt8), (61 : UInt8), (61 : UInt8), (61 : UInt8), (61 : UInt8), (61 : UInt8), (61 : UInt8), (61 :
 UInt8), (61 : UInt8), (61 : UInt8), (61 : UInt8), (61 : UInt8), (61 : UInt8), (61 : UInt8), (61 : UInt8), (61 : UInt8), (61 : UInt8), (61 : UInt8), (61 : UInt8), (61 : UInt8), (61 : UInt8), (61 :
 UInt8), (61 : UInt8), (61 : UInt8), (61 : UInt8), (61 : UInt8), (61 : UInt8), (61 : UInt8), (61 : UInt8), (61 : UInt8), (61 : UInt8), (61 : UInt8), (61 : UInt8), (61 : UInt8), (61 : UInt8), (61 :
 UInt8), (61 : UInt8), (61 : UInt8), (61 : UInt8), (61 : UInt8), (61 : UInt8), (61 : UInt8), (61 : UInt8), (61 : UInt8), (61 : UInt8), (61 : UInt8), (61 : UInt8), (61 : UInt8), (61 : UInt8), (61 :
 UInt8), (61 : UInt8), (61 : UInt8), (61 : UInt8), (61 : UInt8), (61 : UInt8), (61 : UInt8), (61 : UInt8), (61 : UInt8), (61 : UInt8), (61 : UInt8), (61 : UInt8), (61 : UInt8), (61 : UInt8), (61 :
 UInt8), (61 : UInt8), (61 : UInt8), (61 : UInt8), (61 : UInt8), (61 : UInt8), (61 : UInt8), (61 : UInt8), (61 : UInt8), (61 : UInt8), (61 : UInt8), (61 : UInt8), (61 : UInt8), (61 : UInt8), (61 :
 UInt8), (61 : UInt8), (61 : UInt8), (61 : UInt8), (61 : UInt8), (61 : UInt8), (61 : UInt8), (61 : UInt8), (61 : UInt8), (61 : UInt8), (61 : UInt8), (61 : UInt8), (61 : UInt8), (61 : UInt8), (61 :
 UInt8), (61 : UInt8), (61 : UInt8), (61 : UInt8), (61 : UInt8), (61 : UInt8), (61 : UInt8), (61 : UInt8), (61 : UInt8), (61 : UInt8), (61 : UInt8), (61 : UInt8), (61 : UInt8), (61 : UInt8), (61 :
 UInt8), (61 : UInt8), (61 : UInt8), (61 : UInt8), (61 : UInt8), (61 : UInt8), (61 : UInt8), (61 : UInt8), (61 : UInt8), (61 : UInt8), (61 : UInt8), (61 : UInt8), (61 : UInt8), (61 : UInt8)]),
 Go.Value.string s] w' fun (v : Go.Value) (w' : Go.World) => ∃ (x : Bool), v = Go.Value.bool x ∧ bif x then ((0 : Int) ≤ Go.IntKind.wrap Go.IntKind.i64 x_1 ∧ Go.IntKind.wrap Go.IntKind.i64 x_1 ≤
 (↑(ByteArray.size (ByteArray.mk #[(61 : UInt8), (61 : UInt8), (61 : UInt8), (61 : UInt8), (61 : UInt8), (61 : UInt8), (61 : UInt8), (61 : UInt8), (61 : UInt8), (61 : UInt8), (61 : UInt8), (61 : UInt8),
 (61 : UInt8), (61 : UInt8), (61 : UInt8), (61 : UInt8), (61 : UInt8), (61 : UInt8), (61 : UInt8), (61 : UInt8), (61 : UInt8), (61 : UInt8), (61 : UInt8), (61 : UInt8), (61 : UInt8), (61 : UInt8), (61 :
 UInt8), (61 : UInt8), (61 : UInt8), (61 : UInt8), (61 : UInt8), (61 : UInt8), (61 : UInt8), (61 : UInt8), (61 : UInt8), (61 : UInt8), (61 : UInt8), (61 : UInt8), (61 : UInt8), (61 : UInt8), (61 :
 UInt8), (61 : UInt8), (61 : UInt8), (61 : UInt8), (61 : UInt8), (61 : UInt8), (61 : UInt8), (61 : UInt8), (61 : UInt8), (61 : UInt8), (61 : UInt8), (61 : UInt8), (61 : UInt8), (61 : UInt8), (61 :
 UInt8), (61 : UInt8), (61 : UInt8), (61 : UInt8), (61 : UInt8), (61 : UInt8), (61 : UInt8), (61 : UInt8), (61 : UInt8), (61 : UInt8), (61 : UInt8), (61 : UInt8), (61 : UInt8), (61 : UInt8), (61 :
 UInt8), (61 : UInt8), (61 : UInt8), (61 : UInt8), (61 : UInt8), (61 : UInt8), (61 : UInt8), (61 : UInt8), (61 : UInt8), (61 : UInt8), (61 : UInt8), (61 : UInt8), (61 : UInt8), (61 : UInt8), (61 :
 UInt8), (61 : UInt8), (61 : UInt8), (61 : UInt8), (61 : UInt8), (61 : UInt8), (61 : UInt8), (61 : UInt8), (61 : UInt8), (61 : UInt8), (61 : UInt8), (61 : UInt8), (61 : UInt8), (61 : UInt8), (61 :
 UInt8), (61 : UInt8), (61 : UInt8), (61 : UInt8), (61 : UInt8), (61 : UInt8), (61 : UInt8), (61 : UInt8), (61 : UInt8), (61 : UInt8), (61 : UInt8), (61 : UInt8), (61 : UInt8), (61 : UInt8), (61 :
 UInt8), (61 : UInt8), (61 : UInt8), (61 : UInt8), (61 : UInt8), (61 : UInt8), (61 : UInt8), (61 : UInt8), (61 : UInt8), (61 : UInt8), (61 : UInt8), (61 : UInt8), (61 : UInt8), (61 : UInt8), (61 :
 UInt8), (61 : UInt8), (61 : UInt8), (61 : UInt8)])) : Int)) ∧ K (Go.Value.string (ByteArray.extract (ByteArray.mk #[(61 : UInt8), (61 : UInt8), (61 : UInt8), (61 : UInt8), (61 : UInt8), (61 : UInt8),
 (61 : UInt8), (61 : UInt8), (61 : UInt8), (61 : UInt8), (61 : UInt8), (61 : UInt8), (61 : UInt8), (61 : UInt8), (61 : UInt8), (61 : UInt8), (61 : UInt8), (61 : UInt8), (61 : UInt8), (61 : UInt8), (61 :
 UInt8), (61 : UInt8), (61 : UInt8), (61 : UInt8), (61 : UInt8), (61 : UInt8), (61 : UInt8), (61 : UInt8), (61 : UInt8), (61 : UInt8), (61 : UInt8), (61 : UInt8), (61 : UInt8), (61 : UInt8), (61 :
 UInt8), (61 : UInt8), (61 : UInt8), (61 : UInt8), (61 : UInt8), (61 : UInt8), (61 : UInt8), (61 : UInt8), (61 : UInt8), (61 : UInt8), (61 : UInt8), (61 : UInt8), (61 : UInt8), (61 : UInt8), (61 :
 UInt8), (61 : UInt8), (61 : UInt8), (61 : UInt8), (61 : UInt8), (61 : UInt8), (61 : UInt8), (61 : UInt8), (61 : UInt8), (61 : UInt8), (61 : UInt8), (61 : UInt8), (61 : UInt8), (61 : UInt8), (61 :
 UInt8), (61 : UInt8), (61 : UInt8), (61 : UInt8), (61 : UInt8), (61 : UInt8), (61 : UInt8), (61 : UInt8), (61 : UInt8), (61 : UInt8), (61 : UInt8), (61 : UInt8), (61 : UInt8), (61 : UInt8), (61 :
 UInt8), (61 : UInt8), (61 : UInt8), (61 : UInt8), (61 : UInt8), (61 : UInt8), (61 : UInt8), (61 : UInt8), (61 : UInt8), (61 : UInt8), (61 : UInt8), (61 : UInt8), (61 : UInt8), (61 : UInt8), (61 :
 UInt8), (61 : UInt8), (61 : UInt8), (61 : UInt8), (61 : UInt8), (61 : UInt8), (61 : UInt8), (61 : UInt8), (61 : UInt8), (61 : UInt8), (61 : UInt8), (61 : UInt8), (61 : UInt8), (61 : UInt8), (61 :
 UInt8), (61 : UInt8), (61 : UInt8), (61 : UInt8), (61 : UInt8), (61 : UInt8), (61 : UInt8), (61 : UInt8), (61 : UInt8), (61 : UInt8), (61 : UInt8), (61 : UInt8), (61 : UInt8), (61 : UInt8), (61 :
 UInt8), (61 : UInt8), (61 : UInt8), (61 : UInt8), (61 : UInt8), (61 : UInt8), (61 : UInt8), (61 : UInt8), (61 : UInt8), (61 : UInt8)]) (0 : Nat) (Int.toNat (Go.IntKind.wrap Go.IntKind.i64 x_1)))) w'
 else bif Decidable.decide (Go.IntKind.wrap Go.IntKind.i64 x_1 ≤ (64 : Int)) then Go.Sx.CallsV Go.Proofs.Try.prog (52 : Nat) #[Go.Value.string (ByteArray.mk #[(9 : UInt8), (9 : UInt8), (9 : UInt8), (9 :
 UInt8), (9 : UInt8), (9 : UInt8), (9 : UInt8), (9 : UInt8), (9 : UInt8), (9 : UInt8), (9 : UInt8), (9 : UInt8), (9 : UInt8), (9 : UInt8), (9 : UInt8), (9 : UInt8), (9 : UInt8), (9 : UInt8), (9 :
 UInt8), (9 : UInt8), (9 : UInt8), (9 : UInt8), (9 : UInt8), (9 : UInt8), (9 : UInt8), (9 : UInt8), (9 : UInt8), (9 : UInt8), (9 : UInt8), (9 : UInt8), (9 : UInt8), (9 : UInt8), (9 : UInt8), (9 :
 UInt8), (9 : UInt8), (9 : UInt8), (9 : UInt8), (9 : UInt8), (9 : UInt8), (9 : UInt8), (9 : UInt8), (9 : UInt8), (9 : UInt8), (9 : UInt8), (9 : UInt8), (9 : UInt8), (9 : UInt8), (9 : UInt8), (9 :
 UInt8), (9 : UInt8), (9 : UInt8), (9 : UInt8), (9 : UInt8), (9 : UInt8), (9 : UInt8), (9 : UInt8), (9 : UInt8), (9 : UInt8), (9 : UInt8), (9 : UInt8), (9 : UInt8), (9 : UInt8), (9 : UInt8), (9 :
 UInt8)]), Go.Value.string s] w' fun (v : Go.Value) (w' : Go.World) => ∃ (x : Bool), v = Go.Value.bool x ∧ bif x then ((0 : Int) ≤ Go.IntKind.wrap Go.IntKind.i64 x_1 ∧ Go.IntKind.wrap Go.IntKind.i64 x_1
 ≤ (↑(ByteArray.size (ByteArray.mk #[(9 : UInt8), (9 : UInt8), (9 : UInt8), (9 : UInt8), (9 : UInt8), (9 : UInt8), (9 : UInt8), (9 : UInt8), (9 : UInt8), (9 : UInt8), (9 : UInt8), (9 : UInt8), (9 :
 UInt8), (9 : UInt8), (9 : UInt8), (9 : UInt8), (9 : UInt8), (9 : UInt8), (9 : UInt8), (9 : UInt8), (9 : UInt8), (9 : UInt8), (9 : UInt8), (9 : UInt8), (9 : UInt8), (9 : UInt8), (9 : UInt8), (9 :
 UInt8), (9 : UInt8), (9 : UInt8), (9 : UInt8), (9 : UInt8), (9 : UInt8), (9 : UInt8), (9 : UInt8), (9 : UInt8), (9 : UInt8), (9 : UInt8), (9 : UInt8), (9 : UInt8), (9 : UInt8), (9 : UInt8), (9 :
 UInt8), (9 : UInt8), (9 : UInt8), (9 : UInt8), (9 : UInt8), (9 : UInt8), (9 : UInt8), (9 : UInt8), (9 : UInt8), (9 : UInt8), (9 : UInt8), (9 : UInt8), (9 : UInt8), (9 : UInt8), (9 : UInt8), (9 :
 UInt8), (9 : UInt8), (9 : UInt8), (9 : UInt8), (9 : UInt8), (9 : UInt8), (9 : UInt8)])) : Int)) ∧ K (Go.Value.string (ByteArray.extract (ByteArray.mk #[(9 : UInt8), (9 : UInt8), (9 : UInt8), (9 :
 UInt8), (9 : UInt8), (9 : UInt8), (9 : UInt8), (9 : UInt8), (9 : UInt8), (9 : UInt8), (9 : UInt8), (9 : UInt8), (9 : UInt8), (9 : UInt8), (9 : UInt8), (9 : UInt8), (9 : UInt8), (9 : UInt8), (9 :
 UInt8), (9 : UInt8), (9 : UInt8), (9 : UInt8), (9 : UInt8), (9 : UInt8), (9 : UInt8), (9 : UInt8), (9 : UInt8), (9 : UInt8), (9 : UInt8), (9 : UInt8), (9 : UInt8), (9 : UInt8), (9 : UInt8), (9 :
 UInt8), (9 : UInt8), (9 : UInt8), (9 : UInt8), (9 : UInt8), (9 : UInt8), (9 : UInt8), (9 : UInt8), (9 : UInt8), (9 : UInt8), (9 : UInt8), (9 : UInt8), (9 : UInt8), (9 : UInt8), (9 : UInt8), (9 :
 UInt8), (9 : UInt8), (9 : UInt8), (9 : UInt8), (9 : UInt8), (9 : UInt8), (9 : UInt8), (9 : UInt8), (9 : UInt8), (9 : UInt8), (9 : UInt8), (9 : UInt8), (9 : UInt8), (9 : UInt8), (9 : UInt8), (9 :
 UInt8)]) (0 : Nat) (Int.toNat (Go.IntKind.wrap Go.IntKind.i64 x_1)))) w' else J w' else J w' else bif Decidable.decide (Go.IntKind.wrap Go.IntKind.i64 x_1 ≤ (64 : Int)) then Go.Sx.CallsV
 Go.Proofs.Try.prog (52 : Nat) #[Go.Value.string (ByteArray.mk #[(9 : UInt8), (9 : UInt8), (9 : UInt8), (9 : UInt8), (9 : UInt8), (9 : UInt8), (9 : UInt8), (9 : UInt8), (9 : UInt8), (9 : UInt8), (9 :
 UInt8), (9 : UInt8), (9 : UInt8), (9 : UInt8), (9 : UInt8), (9 : UInt8), (9 : UInt8), (9 : UInt8), (9 : UInt8), (9 : UInt8), (9 : UInt8), (9 : UInt8), (9 : UInt8), (9 : UInt8), (9 : UInt8), (9 :
 UInt8), (9 : UInt8), (9 : UInt8), (9 : UInt8), (9 : UInt8), (9 : UInt8), (9 : UInt8), (9 : UInt8), (9 : UInt8), (9 : UInt8), (9 : UInt8), (9 : UInt8), (9 : UInt8), (9 : UInt8), (9 : UInt8), (9 :
 UInt8), (9 : UInt8), (9 : UInt8), (9 : UInt8), (9 : UInt8), (9 : UInt8), (9 : UInt8), (9 : UInt8), (9 : UInt8), (9 : UInt8), (9 : UInt8), (9 : UInt8), (9 : UInt8), (9 : UInt8), (9 : UInt8), (9 :
 UInt8), (9 : UInt8), (9 : UInt8), (9 : UInt8), (9 : UInt8), (9 : UInt8), (9 : UInt8), (9 : UInt8), (9 : UInt8)]), Go.Value.string s] w' fun (v : Go.Value) (w' : Go.World) => ∃ (x : Bool), v =
 Go.Value.bool x ∧ bif x then ((0 : Int) ≤ Go.IntKind.wrap Go.IntKind.i64 x_1 ∧ Go.IntKind.wrap Go.IntKind.i64 x_1 ≤ (↑(ByteArray.size (ByteArray.mk #[(9 : UInt8), (9 : UInt8), (9 : UInt8), (9 : UInt8),
 (9 : UInt8), (9 : UInt8), (9 : UInt8), (9 : UInt8), (9 : UInt8), (9 : UInt8), (9 : UInt8), (9 : UInt8), (9 : UInt8), (9 : UInt8), (9 : UInt8), (9 : UInt8), (9 : UInt8), (9 : UInt8), (9 : UInt8), (9 :
 UInt8), (9 : UInt8), (9 : UInt8), (9 : UInt8), (9 : UInt8), (9 : UInt8), (9 : UInt8), (9 : UInt8), (9 : UInt8), (9 : UInt8), (9 : UInt8), (9 : UInt8), (9 : UInt8), (9 : UInt8), (9 : UInt8), (9 :
 UInt8), (9 : UInt8), (9 : UInt8), (9 : UInt8), (9 : UInt8), (9 : UInt8), (9 : UInt8), (9 : UInt8), (9 : UInt8), (9 : UInt8), (9 : UInt8), (9 : UInt8), (9 : UInt8), (9 : UInt8), (9 : UInt8), (9 :
 UInt8), (9 : UInt8), (9 : UInt8), (9 : UInt8), (9 : UInt8), (9 : UInt8), (9 : UInt8), (9 : UInt8), (9 : UInt8), (9 : UInt8), (9 : UInt8), (9 : UInt8), (9 : UInt8), (9 : UInt8), (9 : UInt8)])) : Int)) ∧
 K (Go.Value.string (ByteArray.extract (ByteArray.mk #[(9 : UInt8), (9 : UInt8), (9 : UInt8), (9 : UInt8), (9 : UInt8), (9 : UInt8), (9 : UInt8), (9 : UInt8), (9 : UInt8), (9 : UInt8), (9 : UInt8), (9 :
 UInt8), (9 : UInt8), (9 : UInt8), (9 : UInt8), (9 : UInt8), (9 : UInt8), (9 : UInt8), (9 : UInt8), (9 : UInt8), (9 : UInt8), (9 : UInt8), (9 : UInt8), (9 : UInt8), (9 : UInt8), (9 : UInt8), (9 :
 UInt8), (9 : UInt8), (9 : UInt8), (9 : UInt8), (9 : UInt8), (9 : UInt8), (9 : UInt8), (9 : UInt8), (9 : UInt8), (9 : UInt8), (9 : UInt8), (9 : UInt8), (9 : UInt8), (9 : UInt8), (9 : UInt8), (9 :
 UInt8), (9 : UInt8), (9 : UInt8), (9 : UInt8), (9 : UInt8), (9 : UInt8), (9 : UInt8), (9 : UInt8), (9 : UInt8), (9 : UInt8), (9 : UInt8), (9 : UInt8), (9 : UInt8), (9 : UInt8), (9 : UInt8), (9 :
 UInt8), (9 : UInt8), (9 : UInt8), (9 : UInt8), (9 : UInt8), (9 : UInt8), (9 : UInt8), (9 : UInt8)]) (0 : Nat) (Int.toNat (Go.IntKind.wrap Go.IntKind.i64 x_1)))) w' else J w' else J w' else bif
 Decidable.decide (Go.IntKind.wrap Go.IntKind.i64 x_1 ≤ (64 : Int)) then Go.Sx.CallsV Go.Proofs.Try.prog (52 : Nat) #[Go.Value.string (ByteArray.mk #[(48 : UInt8), (48 : UInt8), (48 : UInt8), (48 :
 UInt8), (48 : UInt8), (48 : UInt8), (48 : UInt8), (48 : UInt8), (48 : UInt8), (48 : UInt8), (48 : UInt8), (48 : UInt8), (48 : UInt8), (48 : UInt8), (48 : UInt8), (48 : UInt8), (48 : UInt8), (48 :
 UInt8), (48 : UInt8), (48 : UInt8), (48 : UInt8), (48 : UInt8), (48 : UInt8), (48 : UInt8), (48 : UInt8), (48 : UInt8), (48 : UInt8), (48 : UInt8), (48 : UInt8), (48 : UInt8), (48 : UInt8), (48 :
 UInt8), (48 : UInt8), (48 : UInt8), (48 : UInt8), (48 : UInt8), (48 : UInt8), (48 : UInt8), (48 : UInt8), (48 : UInt8), (48 : UInt8), (48 : UInt8), (48 : UInt8), (48 : UInt8), (48 : UInt8), (48 :
 UInt8), (48 : UInt8), (48 : UInt8), (48 : UInt8), (48 : UInt8), (48 : UInt8), (48 : UInt8), (48 : UInt8), (48 : UInt8), (48 : UInt8), (48 : UInt8), (48 : UInt8), (48 : UInt8), (48 : UInt8), (48 :
 UInt8), (48 : UInt8), (48 : UInt8), (48 : UInt8), (48 : UInt8)]), Go.Value.string s] w fun (v : Go.Value) (w' : Go.World) => ∃ (x : Bool), v = Go.Value.bool x ∧ bif x then ((0 : Int) ≤ Go.IntKind.wrap
 Go.IntKind.i64 x_1 ∧ Go.IntKind.wrap Go.IntKind.i64 x_1 ≤ (↑(ByteArray.size (ByteArray.mk #[(48 : UInt8), (48 : UInt8), (48 : UInt8), (48 : UInt8), (48 : UInt8), (48 : UInt8), (48 : UInt8), (48 :
 UInt8), (48 : UInt8), (48 : UInt8), (48 : UInt8), (48 : UInt8), (48 : UInt8), (48 : UInt8), (48 : UInt8), (48 : UInt8), (48 : UInt8), (48 : UInt8), (48 : UInt8), (48 : UInt8), (48 : UInt8), (48 :
 UInt8), (48 : UInt8), (48 : UInt8), (48 : UInt8), (48 : UInt8), (48 : UInt8), (48 : UInt8), (48 : UInt8), (48 : UInt8), (48 : UInt8), (48 : UInt8), (48 : UInt8), (48 : UInt8), (48 : UInt8), (48 :
 UInt8), (48 : UInt8), (48 : UInt8), (48 : UInt8), (48 : UInt8), (48 : UInt8), (48 : UInt8), (48 : UInt8), (48 : UInt8), (48 : UInt8), (48 : UInt8), (48 : UInt8), (48 : UInt8), (48 : UInt8), (48 :
 UInt8), (48 : UInt8), (48 : UInt8), (48 : UInt8), (48 : UInt8), (48 : UInt8), (48 : UInt8), (48 : UInt8), (48 : UInt8), (48 : UInt8), (48 : UInt8), (48 : UInt8), (48 : UInt8), (48 : UInt8), (48 :
 UInt8)])) : Int)) ∧ K (Go.Value.string (ByteArray.extract (ByteArray.mk #[(48 : UInt8), (48 : UInt8), (48 : UInt8), (48 : UInt8), (48 : UInt8), (48 : UInt8), (48 : UInt8), (48 : UInt8), (48 : UInt8),
 (48 : UInt8), (48 : UInt8), (48 : UInt8), (48 : UInt8), (48 : UInt8), (48 : UInt8), (48 : UInt8), (48 : UInt8), (48 : UInt8), (48 : UInt8), (48 : UInt8), (48 : UInt8), (48 : UInt8), (48 : UInt8), (48 :
 UInt8), (48 : UInt8), (48 : UInt8), (48 : UInt8), (48 : UInt8), (48 : UInt8), (48 : UInt8), (48 : UInt8), (48 : UInt8), (48 : UInt8), (48 : UInt8), (48 : UInt8), (48 : UInt8), (48 : UInt8), (48 :
 UInt8), (48 : UInt8), (48 : UInt8), (48 : UInt8), (48 : UInt8), (48 : UInt8), (48 : UInt8), (48 : UInt8), (48 : UInt8), (48 : UInt8), (48 : UInt8), (48 : UInt8), (48 : UInt8), (48 : UInt8), (48 :
 UInt8), (48 : UInt8), (48 : UInt8), (48 : UInt8), (48 : UInt8), (48 : UInt8), (48 : UInt8), (48 : UInt8), (48 : UInt8), (48 : UInt8), (48 : UInt8), (48 : UInt8), (48 : UInt8)]) (0 : Nat) (Int.toNat
 (Go.IntKind.wrap Go.IntKind.i64 x_1)))) w' else bif Decidable.decide (Go.IntKind.wrap Go.IntKind.i64 x_1 ≤ (128 : Int)) then Go.Sx.CallsV Go.Proofs.Try.prog (52 : Nat) #[Go.Value.string (ByteArray.mk
 #[(61 : UInt8), (61 : UInt8), (61 : UInt8), (61 : UInt8), (61 : UInt8), (61 : UInt8), (61 : UInt8), (61 : UInt8), (61 : UInt8), (61 : UInt8), (61 : UInt8), (61 : UInt8), (61 : UInt8), (61 : UInt8), (61
 : UInt8), (61 : UInt8), (61 : UInt8), (61 : UInt8), (61 : UInt8), (61 : UInt8), (61 : UInt8), (61 : UInt8), (61 : UInt8), (61 : UInt8), (61 : UInt8), (61 : UInt8), (61 : UInt8), (61 : UInt8), (61 :
 UInt8), (61 : UInt8), (61 : UInt8), (61 : UInt8), (61 : UInt8), (61 : UInt8), (61 : UInt8), (61 : UInt8), (61 : UInt8), (61 : UInt8), (61 : UInt8), (61 : UInt8), (61 : UInt8), (61 : UInt8), (61 :
 UInt8), (61 : UInt8), (61 : UInt8), (61 : UInt8), (61 : UInt8), (61 : UInt8), (61 : UInt8), (61 : UInt8), (61 : UInt8), (61 : UInt8), (61 : UInt8), (61 : UInt8), (61 : UInt8), (61 : UInt8), (61 :
 UInt8), (61 : UInt8), (61 : UInt8), (61 : UInt8), (61 : UInt8), (61 : UInt8), (61 : UInt8), (61 : UInt8), (61 : UInt8), (61 : UInt8), (61 : UInt8), (61 : UInt8), (61 : UInt8), (61 : UInt8), (61 :
 UInt8), (61 : UInt8), (61 : UInt8), (61 : UInt8), (61 : UInt8), (61 : UInt8), (61 : UInt8), (61 : UInt8), (61 : UInt8), (61 : UInt8), (61 : UInt8), (61 : UInt8), (61 : UInt8), (61 : UInt8), (61 :
 UInt8), (61 : UInt8), (61 : UInt8), (61 : UInt8), (61 : UInt8), (61 : UInt8), (61 : UInt8), (61 : UInt8), (61 : UInt8), (61 : UInt8), (61 : UInt8), (61 : UInt8), (61 : UInt8), (61 : UInt8), (61 :
 UInt8), (61 : UInt8), (61 : UInt8), (61 : UInt8), (61 : UInt8), (61 : UInt8), (61 : UInt8), (61 : UInt8), (61 : UInt8), (61 : UInt8), (61 : UInt8), (61 : UInt8), (61 : UInt8), (61 : UInt8), (61 :
 UInt8), (61 : UInt8), (61 : UInt8), (61 : UInt8), (61 : UInt8), (61 : UInt8), (61 : UInt8), (61 : UInt8), (61 : UInt8), (61 : UInt8), (61 : UInt8), (61 : UInt8), (61 : UInt8), (61 : UInt8), (61 :
 UInt8), (61 : UInt8)]), Go.Value.string s] w' fun (v : Go.Value) (w' : Go.World) => ∃ (x : Bool), v = Go.Value.bool x ∧ bif x then ((0 : Int) ≤ Go.IntKind.wrap Go.IntKind.i64 x_1 ∧ Go.IntKind.wrap
 Go.IntKind.i64 x_1 ≤ (↑(ByteArray.size (ByteArray.mk #[(61 : UInt8), (61 : UInt8), (61 : UInt8), (61 : UInt8), (61 : UInt8), (61 : UInt8), (61 : UInt8), (61 : UInt8), (61 : UInt8), (61 : UInt8), (61 :
 UInt8), (61 : UInt8), (61 : UInt8), (61 : UInt8), (61 : UInt8), (61 : UInt8), (61 : UInt8), (61 : UInt8), (61 : UInt8), (61 : UInt8), (61 : UInt8), (61 : UInt8), (61 : UInt8), (61 : UInt8), (61 :
 UInt8), (61 : UInt8), (61 : UInt8), (61 : UInt8), (61 : UInt8), (61 : UInt8), (61 : UInt8), (61 : UInt8), (61 : UInt8), (61 : UInt8), (61 : UInt8), (61 : UInt8), (61 : UInt8), (61 : UInt8), (61 :
 UInt8), (61 : UInt8), (61 : UInt8), (61 : UInt8), (61 : UInt8), (61 : UInt8), (61 : UInt8), (61 : UInt8), (61 : UInt8), (61 : UInt8), (61 : UInt8), (61 : UInt8), (61 : UInt8), (61 : UInt8), (61 :
 UInt8), (61 : UInt8), (61 : UInt8), (61 : UInt8), (61 : UInt8), (61 : UInt8), (61 : UInt8), (61 : UInt8), (61 : UInt8), (61 : UInt8), (61 : UInt8), (61 : UInt8), (61 : UInt8), (61 : UInt8), (61 :
 UInt8), (61 : UInt8), (61 : UInt8), (61 : UInt8), (61 : UInt8), (61 : UInt8), (61 : UInt8), (61 : UInt8), (61 : UInt8), (61 : UInt8), (61 : UInt8), (61 : UInt8), (61 : UInt8), (61 : UInt8), (61 :
 UInt8), (61 : UInt8), (61 : UInt8), (61 : UInt8), (61 : UInt8), (61 : UInt8), (61 : UInt8), (61 : UInt8), (61 : UInt8), (61 : UInt8), (61 : UInt8), (61 : UInt8), (61 : UInt8), (61 : UInt8), (61 :
 UInt8), (61 : UInt8), (61 : UInt8), (61 : UInt8), (61 : UInt8), (61 : UInt8), (61 : UInt8), (61 : UInt8), (61 : UInt8), (61 : UInt8), (61 : UInt8), (61 : UInt8), (61 : UInt8), (61 : UInt8), (61 :
 UInt8), (61 : UInt8), (61 : UInt8), (61 : UInt8), (61 : UInt8), (61 : UInt8), (61 : UInt8), (61 : UInt8), (61 : UInt8), (61 : UInt8), (61 : UInt8), (61 : UInt8), (61 : UInt8), (61 : UInt8), (61 :
 UInt8), (61 : UInt8), (61 : UInt8), (61 : UInt8), (61 : UInt8), (61 : UInt8)])) : Int)) ∧ K (Go.Value.string (ByteArray.extract (ByteArray.mk #[(61 : UInt8), (61 : UInt8), (61 : UInt8), (61 : UInt8),
 (61 : UInt8), (61 : UInt8), (61 : UInt8), (61 : UInt8), (61 : UInt8), (61 : UInt8), (61 : UInt8), (61 : UInt8), (61 : UInt8), (61 : UInt8), (61 : UInt8), (61 : UInt8), (61 : UInt8), (61 : UInt8), (61 :
 UInt8), (61 : UInt8), (61 : UInt8), (61 : UInt8), (61 : UInt8), (61 : UInt8), (61 : UInt8), (61 : UInt8), (61 : UInt8), (61 : UInt8), (61 : UInt8), (61 : UInt8), (61 : UInt8), (61 : UInt8), (61 :
 UInt8), (61 : UInt8), (61 : UInt8), (61 : UInt8), (61 : UInt8), (61 : UInt8), (61 : UInt8), (61 : UInt8), (61 : UInt8), (61 : UInt8), (61 : UInt8), (61 : UInt8), (61 : UInt8), (61 : UInt8), (61 :
 UInt8), (61 : UInt8), (61 : UInt8), (61 : UInt8), (61 : UInt8), (61 : UInt8), (61 : UInt8), (61 : UInt8), (61 : UInt8), (61 : UInt8), (61 : UInt8), (61 : UInt8), (61 : UInt8), (61 : UInt8), (61 :
 UInt8), (61 : UInt8), (61 : UInt8), (61 : UInt8), (61 : UInt8), (61 : UInt8), (61 : UInt8), (61 : UInt8), (61 : UInt8), (61 : UInt8), (61 : UInt8), (61 : UInt8), (61 : UInt8), (61 : UInt8), (61 :
 UInt8), (61 : UInt8), (61 : UInt8), (61 : UInt8), (61 : UInt8), (61 : UInt8), (61 : UInt8), (61 : UInt8), (61 : UInt8), (61 : UInt8), (61 : UInt8), (61 : UInt8), (61 : UInt8), (61 : UInt8), (61 :
 UInt8), (61 : UInt8), (61 : UInt8), (61 : UInt8), (61 : UInt8), (61 : UInt8), (61 : UInt8), (61 : UInt8), (61 : UInt8), (61 : UInt8), (61 : UInt8), (61 : UInt8), (61 : UInt8), (61 : UInt8), (61 :
 UInt8), (61 : UInt8), (61 : UInt8), (61 : UInt8), (61 : UInt8), (61 : UInt8), (61 : UInt8), (61 : UInt8), (61 : UInt8), (61 : UInt8), (61 : UInt8), (61 : UInt8), (61 : UInt8), (61 : UInt8), (61 :
 UInt8), (61 : UInt8), (61 : UInt8), (61 : UInt8), (61 : UInt8), (61 : UInt8), (61 : UInt8), (61 : UInt8), (61 : UInt8), (61 : UInt8), (61 : UInt8), (61 : UInt8)]) (0 : Nat) (Int.toNat (Go.IntKind.wrap
 Go.IntKind.i64 x_1)))) w' else bif Decidable.decide (Go.IntKind.wrap Go.IntKind.i64 x_1 ≤ (64 : Int)) then Go.Sx.CallsV Go.Proofs.Try.prog (52 : Nat) #[Go.Value.string (ByteArray.mk #[(9 : UInt8), (9 :
 UInt8), (9 : UInt8), (9 : UInt8), (9 : UInt8), (9 : UInt8), (9 : UInt8), (9 : UInt8), (9 : UInt8), (9 : UInt8), (9 : UInt8), (9 : UInt8), (9 : UInt8), (9 : UInt8), (9 : UInt8), (9 : UInt8), (9 :
 UInt8), (9 : UInt8), (9 : UInt8), (9 : UInt8), (9 : UInt8), (9 : UInt8), (9 : UInt8), (9 : UInt8), (9 : UInt8), (9 : UInt8), (9 : UInt8), (9 : UInt8), (9 : UInt8), (9 : UInt8), (9 : UInt8), (9 :
 UInt8), (9 : UInt8), (9 : UInt8), (9 : UInt8), (9 : UInt8), (9 : UInt8), (9 : UInt8), (9 : UInt8), (9 : UInt8), (9 : UInt8), (9 : UInt8), (9 : UInt8), (9 : UInt8), (9 : UInt8), (9 : UInt8), (9 :
 UInt8), (9 : UInt8), (9 : UInt8), (9 : UInt8), (9 : UInt8), (9 : UInt8), (9 : UInt8), (9 : UInt8), (9 : UInt8), (9 : UInt8), (9 : UInt8), (9 : UInt8), (9 : UInt8), (9 : UInt8), (9 : UInt8), (9 :
 UInt8), (9 : UInt8), (9 : UInt8)]), Go.Value.string s] w' fun (v : Go.Value) (w' : Go.World) => ∃ (x : Bool), v = Go.Value.bool x ∧ bif x then ((0 : Int) ≤ Go.IntKind.wrap Go.IntKind.i64 x_1 ∧
 Go.IntKind.wrap Go.IntKind.i64 x_1 ≤ (↑(ByteArray.size (ByteArray.mk #[(9 : UInt8), (9 : UInt8), (9 : UInt8), (9 : UInt8), (9 : UInt8), (9 : UInt8), (9 : UInt8), (9 : UInt8), (9 : UInt8), (9 : UInt8),
 (9 : UInt8), (9 : UInt8), (9 : UInt8), (9 : UInt8), (9 : UInt8), (9 : UInt8), (9 : UInt8), (9 : UInt8), (9 : UInt8), (9 : UInt8), (9 : UInt8), (9 : UInt8), (9 : UInt8), (9 : UInt8), (9 : UInt8), (9 :
 UInt8), (9 : UInt8), (9 : UInt8), (9 : UInt8), (9 : UInt8), (9 : UInt8), (9 : UInt8), (9 : UInt8), (9 : UInt8), (9 : UInt8), (9 : UInt8), (9 : UInt8), (9 : UInt8), (9 : UInt8), (9 : UInt8), (9 :
 UInt8), (9 : UInt8), (9 : UInt8), (9 : UInt8), (9 : UInt8), (9 : UInt8), (9 : UInt8), (9 : UInt8), (9 : UInt8), (9 : UInt8), (9 : UInt8), (9 : UInt8), (9 : UInt8), (9 : UInt8), (9 : UInt8), (9 :
 UInt8), (9 : UInt8), (9 : UInt8), (9 : UInt8), (9 : UInt8), (9 : UInt8), (9 : UInt8), (9 : UInt8), (9 : UInt8)])) : Int)) ∧ K (Go.Value.string (ByteArray.extract (ByteArray.mk #[(9 : UInt8), (9 :
 UInt8), (9 : UInt8), (9 : UInt8), (9 : UInt8), (9 : UInt8), (9 : UInt8), (9 : UInt8), (9 : UInt8), (9 : UInt8), (9 : UInt8), (9 : UInt8), (9 : UInt8), (9 : UInt8), (9 : UInt8), (9 : UInt8), (9 :
 UInt8), (9 : UInt8), (9 : UInt8), (9 : UInt8), (9 : UInt8), (9 : UInt8), (9 : UInt8), (9 : UInt8), (9 : UInt8), (9 : UInt8), (9 : UInt8), (9 : UInt8), (9 : UInt8), (9 : UInt8), (9 : UInt8), (9 :
 UInt8), (9 : UInt8), (9 : UInt8), (9 : UInt8), (9 : UInt8), (9 : UInt8), (9 : UInt8), (9 : UInt8), (9 : UInt8), (9 : UInt8), (9 : UInt8), (9 : UInt8), (9 : UInt8), (9 : UInt8), (9 : UInt8), (9 :
 UInt8), (9 : UInt8), (9 : UInt8), (9 : UInt8), (9 : UInt8), (9 : UInt8), (9 : UInt8), (9 : UInt8), (9 : UInt8), (9 : UInt8), (9 : UInt8), (9 : UInt8), (9 : UInt8), (9 : UInt8), (9 : UInt8), (9 :
 UInt8), (9 : UInt8), (9 : UInt8)]) (0 : Nat) (Int.toNat (Go.IntKind.wrap Go.IntKind.i64 x_1)))) w' else J w' else J w' else bif Decidable.decide (Go.IntKind.wrap Go.IntKind.i64 x_1 ≤ (64 : Int)) then
 Go.Sx.CallsV Go.Proofs.Try.prog (52 : Nat) #[Go.Value.string (ByteArray.mk #[(9 : UInt8), (9 : UInt8), (9 : UInt8), (9 : UInt8), (9 : UInt8), (9 : UInt8), (9 : UInt8), (9 : UInt8), (9 : UInt8), (9 :
 UInt8), (9 : UInt8), (9 : UInt8), (9 : UInt8), (9 : UInt8), (9 : UInt8), (9 : UInt8), (9 : UInt8), (9 : UInt8), (9 : UInt8), (9 : UInt8), (9 : UInt8), (9 : UInt8), (9 : UInt8), (9 : UInt8), (9 :
 UInt8), (9 : UInt8), (9 : UInt8), (9 : UInt8), (9 : UInt8), (9 : UInt8), (9 : UInt8), (9 : UInt8), (9 : UInt8), (9 : UInt8), (9 : UInt8), (9 : UInt8), (9 : UInt8), (9 : UInt8), (9 : UInt8), (9 :
 UInt8), (9 : UInt8), (9 : UInt8), (9 : UInt8), (9 : UInt8), (9 : UInt8), (9 : UInt8), (9 : UInt8), (9 : UInt8), (9 : UInt8), (9 : UInt8), (9 : UInt8), (9 : UInt8), (9 : UInt8), (9 : UInt8), (9 :
 UInt8), (9 : UInt8), (9 : UInt8), (9 : UInt8), (9 : UInt8), (9 : UInt8), (9 : UInt8), (9 : UInt8), (9 : UInt8), (9 : UInt8)]), Go.Value.string s] w' fun (v : Go.Value) (w' : Go.World) => ∃ (x : Bool),
 v = Go.Value.bool x ∧ bif x then ((0 : Int) ≤ Go.IntKind.wrap Go.IntKind.i64 x_1 ∧ Go.IntKind.wrap Go.IntKind.i64 x_1 ≤ (↑(ByteArray.size (ByteArray.mk #[(9 : UInt8), (9 : UInt8), (9 : UInt8), (9 :
 UInt8), (9 : UInt8), (9 : UInt8), (9 : UInt8), (9 : UInt8), (9 : UInt8), (9 : UInt8), (9 : UInt8), (9 : UInt8), (9 : UInt8), (9 : UInt8), (9 : UInt8), (9 : UInt8), (9 : UInt8), (9 : UInt8), (9 :
 UInt8), (9 : UInt8), (9 : UInt8), (9 : UInt8), (9 : UInt8), (9 : UInt8), (9 : UInt8), (9 : UInt8), (9 : UInt8), (9 : UInt8), (9 : UInt8), (9 : UInt8), (9 : UInt8), (9 : UInt8), (9 : UInt8), (9 :
 UInt8), (9 : UInt8), (9 : UInt8), (9 : UInt8), (9 : UInt8), (9 : UInt8), (9 : UInt8), (9 : UInt8), (9 : UInt8), (9 : UInt8), (9 : UInt8), (9 : UInt8), (9 : UInt8), (9 : UInt8), (9 : UInt8), (9 :
 UInt8), (9 : UInt8), (9 : UInt8), (9 : UInt8), (9 : UInt8), (9 : UInt8), (9 : UInt8), (9 : UInt8), (9 : UInt8), (9 : UInt8), (9 : UInt8), (9 : UInt8), (9 : UInt8), (9 : UInt8), (9 : UInt8), (9 :
 UInt8)])) : Int)) ∧ K (Go.Value.string (ByteArray.extract (ByteArray.mk #[(9 : UInt8), (9 : UInt8), (9 : UInt8), (9 : UInt8), (9 : UInt8), (9 : UInt8), (9 : UInt8), (9 : UInt8), (9 : UInt8), (9 :
 UInt8), (9 : UInt8), (9 : UInt8), (9 : UInt8), (9 : UInt8), (9 : UInt8), (9 : UInt8), (9 : UInt8), (9 : UInt8), (9 : UInt8), (9 : UInt8), (9 : UInt8), (9 : UInt8), (9 : UInt8), (9 : UInt8), (9 :
 UInt8), (9 : UInt8), (9 : UInt8), (9 : UInt8), (9 : UInt8), (9 : UInt8), (9 : UInt8), (9 : UInt8), (9 : UInt8), (9 : UInt8), (9 : UInt8), (9 : UInt8), (9 : UInt8), (9 : UInt8), (9 : UInt8), (9 :
 UInt8), (9 : UInt8), (9 : UInt8), (9 : UInt8), (9 : UInt8), (9 : UInt8), (9 : UInt8), (9 : UInt8), (9 : UInt8), (9 : UInt8), (9 : UInt8), (9 : UInt8), (9 : UInt8), (9 : UInt8), (9 : UInt8), (9 :
 UInt8), (9 : UInt8), (9 : UInt8), (9 : UInt8), (9 : UInt8), (9 : UInt8), (9 : UInt8), (9 : UInt8), (9 : UInt8), (9 : UInt8)]) (0 : Nat) (Int.toNat (Go.IntKind.wrap Go.IntKind.i64 x_1)))) w' else J w'
 else J w' else bif Decidable.decide (Go.IntKind.wrap Go.IntKind.i64 x_1 ≤ (128 : Int)) then Go.Sx.CallsV Go.Proofs.Try.prog (52 : Nat) #[Go.Value.string (ByteArray.mk #[(61 : UInt8), (61 : UInt8), (61
 : UInt8), (61 : UInt8), (61 : UInt8), (61 : UInt8), (61 : UInt8), (61 : UInt8), (61 : UInt8), (61 : UInt8), (61 : UInt8), (61 : UInt8), (61 : UInt8), (61 : UInt8), (61 : UInt8), (61 : UInt8), (61 :
 UInt8), (61 : UInt8), (61 : UInt8), (61 : UInt8), (61 : UInt8), (61 : UInt8), (61 : UInt8), (61 : UInt8), (61 : UInt8), (61 : UInt8), (61 : UInt8), (61 : UInt8), (61 : UInt8), (61 : UInt8), (61 :
 UInt8), (61 : UInt8), (61 : UInt8), (61 : UInt8), (61 : UInt8), (61 : UInt8), (61 : UInt8), (61 : UInt8), (61 : UInt8), (61 : UInt8), (61 : UInt8), (61 : UInt8), (61 : UInt8), (61 : UInt8), (61 :
 UInt8), (61 : UInt8), (61 : UInt8), (61 : UInt8), (61 : UInt8), (61 : UInt8), (61 : UInt8), (61 : UInt8), (61 : UInt8), (61 : UInt8), (61 : UInt8), (61 : UInt8), (61 : UInt8), (61 : UInt8), (61 :
 UInt8), (61 : UInt8), (61 : UInt8), (61 : UInt8), (61 : UInt8), (61 : UInt8), (61 : UInt8), (61 : UInt8), (61 : UInt8), (61 : UInt8), (61 : UInt8), (61 : UInt8), (61 : UInt8), (61 : UInt8), (61 :
 UInt8), (61 : UInt8), (61 : UInt8), (61 : UInt8), (61 : UInt8), (61 : UInt8), (61 : UInt8), (61 : UInt8), (61 : UInt8), (61 : UInt8), (61 : UInt8), (61 : UInt8), (61 : UInt8), (61 : UInt8), (61 :
 UInt8), (61 : UInt8), (61 : UInt8), (61 : UInt8), (61 : UInt8), (61 : UInt8), (61 : UInt8), (61 : UInt8), (61 : UInt8), (61 : UInt8), (61 : UInt8), (61 : UInt8), (61 : UInt8), (61 : UInt8), (61 :
 UInt8), (61 : UInt8), (61 : UInt8), (61 : UInt8), (61 : UInt8), (61 : UInt8), (61 : UInt8), (61 : UInt8), (61 : UInt8), (61 : UInt8), (61 : UInt8), (61 : UInt8), (61 : UInt8), (61 : UInt8), (61 :
 UInt8), (61 : UInt8), (61 : UInt8), (61 : UInt8), (61 : UInt8), (61 : UInt8), (61 : UInt8), (61 : UInt8), (61 : UInt8), (61 : UInt8), (61 : UInt8), (61 : UInt8), (61 : UInt8), (61 : UInt8)]),
 Go.Value.string s] w fun (v : Go.Value) (w' : Go.World) => ∃ (x : Bool), v = Go.Value.bool x ∧ bif x then ((0 : Int) ≤ Go.IntKind.wrap Go.IntKind.i64 x_1 ∧ Go.IntKind.wrap Go.IntKind.i64 x_1 ≤
 (↑(ByteArray.size (ByteArray.mk #[(61 : UInt8), (61 : UInt8), (61 : UInt8), (61 : UInt8), (61 : UInt8), (61 : UInt8), (61 : UInt8), (61 : UInt8), (61 : UInt8), (61 : UInt8), (61 : UInt8), (61 : UInt8),
 (61 : UInt8), (61 : UInt8), (61 : UInt8), (61 : UInt8), (61 : UInt8), (61 : UInt8), (61 : UInt8), (61 : UInt8), (61 : UInt8), (61 : UInt8), (61 : UInt8), (61 : UInt8), (61 : UInt8), (61 : UInt8), (61 :
 UInt8), (61 : UInt8), (61 : UInt8), (61 : UInt8), (61 : UInt8), (61 : UInt8), (61 : UInt8), (61 : UInt8), (61 : UInt8), (61 : UInt8), (61 : UInt8), (61 : UInt8), (61 : UInt8), (61 : UInt8), (61 :
 UInt8), (61 : UInt8), (61 : UInt8), (61 : UInt8), (61 : UInt8), (61 : UInt8), (61 : UInt8), (61 : UInt8), (61 : UInt8), (61 : UInt8), (61 : UInt8), (61 : UInt8), (61 : UInt8), (61 : UInt8), (61 :
 UInt8), (61 : UInt8), (61 : UInt8), (61 : UInt8), (61 : UInt8), (61 : UInt8), (61 : UInt8), (61 : UInt8), (61 : UInt8), (61 : UInt8), (61 : UInt8), (61 : UInt8), (61 : UInt8), (61 : UInt8), (61 :
 UInt8), (61 : UInt8), (61 : UInt8), (61 : UInt8), (61 : UInt8), (61 : UInt8), (61 : UInt8), (61 : UInt8), (61 : UInt8), (61 : UInt8), (61 : UInt8), (61 : UInt8), (61 : UInt8), (61 : UInt8), (61 :
 UInt8), (61 : UInt8), (61 : UInt8), (61 : UInt8), (61 : UInt8), (61 : UInt8), (61 : UInt8), (61 : UInt8), (61 : UInt8), (61 : UInt8), (61 : UInt8), (61 : UInt8), (61 : UInt8), (61 : UInt8), (61 :
 UInt8), (61 : UInt8), (61 : UInt8), (61 : UInt8), (61 : UInt8), (61 : UInt8), (61 : UInt8), (61 : UInt8), (61 : UInt8), (61 : UInt8), (61 : UInt8), (61 : UInt8), (61 : UInt8), (61 : UInt8), (61 :
 UInt8), (61 : UInt8), (61 : UInt8), (61 : UInt8), (61 : UInt8), (61 : UInt8), (61 : UInt8), (61 : UInt8), (61 : UInt8), (61 : UInt8), (61 : UInt8), (61 : UInt8), (61 : UInt8), (61 : UInt8), (61 :
 UInt8), (61 : UInt8), (61 : UInt8), (61 : UInt8)])) : Int)) ∧ K (Go.Value.string (ByteArray.extract (ByteArray.mk #[(61 : UInt8), (61 : UInt8), (61 : UInt8), (61 : UInt8), (61 : UInt8), (61 : UInt8),
 (61 : UInt8), (61 : UInt8), (61 : UInt8), (61 : UInt8), (61 : UInt8), (61 : UInt8), (61 : UInt8), (61 : UInt8), (61 : UInt8), (61 : UInt8), (61 : UInt8), (61 : UInt8), (61 : UInt8), (61 : UInt8), (61 :
 UInt8), (61 : UInt8), (61 : UInt8), (61 : UInt8), (61 : UInt8), (61 : UInt8), (61 : UInt8), (61 : UInt8), (61 : UInt8), (61 : UInt8), (61 : UInt8), (61 : UInt8), (61 : UInt8), (61 : UInt8), (61 :
 UInt8), (61 : UInt8), (61 : UInt8), (61 : UInt8), (61 : UInt8), (61 : UInt8), (61 : UInt8), (61 : UInt8), (61 : UInt8), (61 : UInt8), (61 : UInt8), (61 : UInt8), (61 : UInt8), (61 : UInt8), (61 :
 UInt8), (61 : UInt8), (61 : UInt8), (61 : UInt8), (61 : UInt8), (61 : UInt8), (61 : UInt8), (61 : UInt8), (61 : UInt8), (61 : UInt8), (61 : UInt8), (61 : UInt8), (61 : UInt8), (61 : UInt8), (61 :
 UInt8), (61 : UInt8), (61 : UInt8), (61 : UInt8), (61 : UInt8), (61 : UInt8), (61 : UInt8), (61 : UInt8), (61 : UInt8), (61 : UInt8), (61 : UInt8), (61 : UInt8), (61 : UInt8), (61 : UInt8), (61 :
 UInt8), (61 : UInt8), (61 : UInt8), (61 : UInt8), (61 : UInt8), (61 : UInt8), (61 : UInt8), (61 : UInt8), (61 : UInt8), (61 : UInt8), (61 : UInt8), (61 : UInt8), (61 : UInt8), (61 : UInt8), (61 :
 UInt8), (61 : UInt8), (61 : UInt8), (61 : UInt8), (61 : UInt8), (61 : UInt8), (61 : UInt8), (61 : UInt8), (61 : UInt8), (61 : UInt8), (61 : UInt8), (61 : UInt8), (61 : UInt8), (61 : UInt8), (61 :
 UInt8), (61 : UInt8), (61 : UInt8), (61 : UInt8), (61 : UInt8), (61 : UInt8), (61 : UInt8), (61 : UInt8), (61 : UInt8), (61 : UInt8), (61 : UInt8), (61 : UInt8), (61 : UInt8), (61 : UInt8), (61 :
 UInt8), (61 : UInt8), (61 : UInt8), (61 : UInt8), (61 : UInt8), (61 : UInt8), (61 : UInt8), (61 : UInt8), (61 : UInt8), (61 : UInt8)]) (0 : Nat) (Int.toNat (Go.IntKind.wrap Go.IntKind.i64 x_1)))) w'
 else bif Decidable.decide (Go.IntKind.wrap Go.IntKind.i64 x_1 ≤ (64 : Int)) then Go.Sx.CallsV Go.Proofs.Try.prog (52 : Nat) #[Go.Value.string (ByteArray.mk #[(9 : UInt8), (9 : UInt8), (9 : UInt8), (9 :
 UInt8), (9 : UInt8), (9 : UInt8), (9 : UInt8), (9 : UInt8), (9 : UInt8), (9 : UInt8), (9 : UInt8), (9 : UInt8), (9 : UInt8), (9 : UInt8), (9 : UInt8), (9 : UInt8), (9 : UInt8), (9 : UInt8), (9 :
 UInt8), (9 : UInt8), (9 : UInt8), (9 : UInt8), (9 : UInt8), (9 : UInt8), (9 : UInt8), (9 : UInt8), (9 : UInt8), (9 : UInt8), (9 : UInt8), (9 : UInt8), (9 : UInt8), (9 : UInt8), (9 : UInt8), (9 :
 UInt8), (9 : UInt8), (9 : UInt8), (9 : UInt8), (9 : UInt8), (9 : UInt8), (9 : UInt8), (9 : UInt8), (9 : UInt8), (9 : UInt8), (9 : UInt8), (9 : UInt8), (9 : UInt8), (9 : UInt8), (9 : UInt8), (9 :
 UInt8), (9 : UInt8), (9 : UInt8), (9 : UInt8), (9 : UInt8), (9 : UInt8), (9 : UInt8), (9 : UInt8), (9 : UInt8), (9 : UInt8), (9 : UInt8), (9 : UInt8), (9 : UInt8), (9 : UInt8), (9 : UInt8), (9 :
 UInt8)]), Go.Value.string s] w' fun (v : Go.Value) (w' : Go.World) => ∃ (x : Bool), v = Go.Value.bool x ∧ bif x then ((0 : Int) ≤ Go.IntKind.wrap Go.IntKind.i64 x_1 ∧ Go.IntKind.wrap Go.IntKind.i64 x_1
 ≤ (↑(ByteArray.size (ByteArray.mk #[(9 : UInt8), (9 : UInt8), (9 : UInt8), (9 : UInt8), (9 : UInt8), (9 : UInt8), (9 : UInt8), (9 : UInt8), (9 : UInt8), (9 : UInt8), (9 : UInt8), (9 : UInt8), (9 :
 UInt8), (9 : UInt8), (9 : UInt8), (9 : UInt8), (9 : UInt8), (9 : UInt8), (9 : UInt8), (9 : UInt8), (9 : UInt8), (9 : UInt8), (9 : UInt8), (9 : UInt8), (9 : UInt8), (9 : UInt8), (9 : UInt8), (9 :
 UInt8), (9 : UInt8), (9 : UInt8), (9 : UInt8), (9 : UInt8), (9 : UInt8), (9 : UInt8), (9 : UInt8), (9 : UInt8), (9 : UInt8), (9 : UInt8), (9 : UInt8), (9 : UInt8), (9 : UInt8), (9 : UInt8), (9 :
 UInt8), (9 : UInt8), (9 : UInt8), (9 : UInt8), (9 : UInt8), (9 : UInt8), (9 : UInt8), (9 : UInt8), (9 : UInt8), (9 : UInt8), (9 : UInt8), (9 : UInt8), (9 : UInt8), (9 : UInt8), (9 : UInt8), (9 :
 UInt8), (9 : UInt8), (9 : UInt8), (9 : UInt8), (9 : UInt8), (9 : UInt8), (9 : UInt8)])) : Int)) ∧ K (Go.Value.string (ByteArray.extract (ByteArray.mk #[(9 : UInt8), (9 : UInt8), (9 : UInt8), (9 :
 UInt8), (9 : UInt8), (9 : UInt8), (9 : UInt8), (9 : UInt8), (9 : UInt8), (9 : UInt8), (9 : UInt8), (9 : UInt8), (9 : UInt8), (9 : UInt8), (9 : UInt8), (9 : UInt8), (9 : UInt8), (9 : UInt8), (9 :
 UInt8), (9 : UInt8), (9 : UInt8), (9 : UInt8), (9 : UInt8), (9 : UInt8), (9 : UInt8), (9 : UInt8), (9 : UInt8), (9 : UInt8), (9 : UInt8), (9 : UInt8), (9 : UInt8), (9 : UInt8), (9 : UInt8), (9 :
 UInt8), (9 : UInt8), (9 : UInt8), (9 : UInt8), (9 : UInt8), (9 : UInt8), (9 : UInt8), (9 : UInt8), (9 : UInt8), (9 : UInt8), (9 : UInt8), (9 : UInt8), (9 : UInt8), (9 : UInt8), (9 : UInt8), (9 :
 UInt8), (9 : UInt8), (9 : UInt8), (9 : UInt8), (9 : UInt8), (9 : UInt8), (9 : UInt8), (9 : UInt8), (9 : UInt8), (9 : UInt8), (9 : UInt8), (9 : UInt8), (9 : UInt8), (9 : UInt8), (9 : UInt8), (9 :
 UInt8)]) (0 : Nat) (Int.toNat (Go.IntKind.wrap Go.IntKind.i64 x_1)))) w' else J w' else J w' else bif Decidable.decide (Go.IntKind.wrap Go.IntKind.i64 x_1 ≤ (64 : Int)) then Go.Sx.CallsV
 Go.Proofs.Try.prog (52 : Nat) #[Go.Value.string (ByteArray.mk #[(9 : UInt8), (9 : UInt8), (9 : UInt8), (9 : UInt8), (9 : UInt8), (9 : UInt8), (9 : UInt8), (9 : UInt8), (9 : UInt8), (9 : UInt8), (9 :
 UInt8), (9 : UInt8), (9 : UInt8), (9 : UInt8), (9 : UInt8), (9 : UInt8), (9 : UInt8), (9 : UInt8), (9 : UInt8), (9 : UInt8), (9 : UInt8), (9 : UInt8), (9 : UInt8), (9 : UInt8), (9 : UInt8), (9 :
 UInt8), (9 : UInt8), (9 : UInt8), (9 : UInt8), (9 : UInt8), (9 : UInt8), (9 : UInt8), (9 : UInt8), (9 : UInt8), (9 : UInt8), (9 : UInt8), (9 : UInt8), (9 : UInt8), (9 : UInt8), (9 : UInt8), (9 :
 UInt8), (9 : UInt8), (9 : UInt8), (9 : UInt8), (9 : UInt8), (9 : UInt8), (9 : UInt8), (9 : UInt8), (9 : UInt8), (9 : UInt8), (9 : UInt8), (9 : UInt8), (9 : UInt8), (9 : UInt8), (9 : UInt8), (9 :
 UInt8), (9 : UInt8), (9 : UInt8), (9 : UInt8), (9 : UInt8), (9 : UInt8), (9 : UInt8), (9 : UInt8), (9 : UInt8)]), Go.Value.string s] w fun (v : Go.Value) (w' : Go.World) => ∃ (x : Bool), v =
 Go.Value.bool x ∧ bif x then ((0 : Int) ≤ Go.IntKind.wrap Go.IntKind.i64 x_1 ∧ Go.IntKind.wrap Go.IntKind.i64 x_1 ≤ (↑(ByteArray.size (ByteArray.mk #[(9 : UInt8), (9 : UInt8), (9 : UInt8), (9 : UInt8),
 (9 : UInt8), (9 : UInt8), (9 : UInt8), (9 : UInt8), (9 : UInt8), (9 : UInt8), (9 : UInt8), (9 : UInt8), (9 : UInt8), (9 : UInt8), (9 : UInt8), (9 : UInt8), (9 : UInt8), (9 : UInt8), (9 : UInt8), (9 :
 UInt8), (9 : UInt8), (9 : UInt8), (9 : UInt8), (9 : UInt8), (9 : UInt8), (9 : UInt8), (9 : UInt8), (9 : UInt8), (9 : UInt8), (9 : UInt8), (9 : UInt8), (9 : UInt8), (9 : UInt8), (9 : UInt8), (9 :
 UInt8), (9 : UInt8), (9 : UInt8), (9 : UInt8), (9 : UInt8), (9 : UInt8), (9 : UInt8), (9 : UInt8), (9 : UInt8), (9 : UInt8), (9 : UInt8), (9 : UInt8), (9 : UInt8), (9 : UInt8), (9 : UInt8), (9 :
 UInt8), (9 : UInt8), (9 : UInt8), (9 : UInt8), (9 : UInt8), (9 : UInt8), (9 : UInt8), (9 : UInt8), (9 : UInt8), (9 : UInt8), (9 : UInt8), (9 : UInt8), (9 : UInt8), (9 : UInt8), (9 : UInt8)])) : Int)) ∧
 K (Go.Value.string (ByteArray.extract (ByteArray.mk #[(9 : UInt8), (9 : UInt8), (9 : UInt8), (9 : UInt8), (9 : UInt8), (9 : UInt8), (9 : UInt8), (9 : UInt8), (9 : UInt8), (9 : UInt8), (9 : UInt8), (9 :
 UInt8), (9 : UInt8), (9 : UInt8), (9 : UInt8), (9 : UInt8), (9 : UInt8), (9 : UInt8), (9 : UInt8), (9 : UInt8), (9 : UInt8), (9 : UInt8), (9 : UInt8), (9 : UInt8), (9 : UInt8), (9 : UInt8), (9 :
 UInt8), (9 : UInt8), (9 : UInt8), (9 : UInt8), (9 : UInt8), (9 : UInt8), (9 : UInt8), (9 : UInt8), (9 : UInt8), (9 : UInt8), (9 : UInt8), (9 : UInt8), (9 : UInt8), (9 : UInt8), (9 : UInt8), (9 :
 UInt8), (9 : UInt8), (9 : UInt8), (9 : UInt8), (9 : UInt8), (9 : UInt8), (9 : UInt8), (9 : UInt8), (9 : UInt8), (9 : UInt8), (9 : UInt8), (9 : UInt8), (9 : UInt8), (9 : UInt8), (9 : UInt8), (9 :
 UInt8), (9 : UInt8), (9 : UInt8), (9 : UInt8), (9 : UInt8), (9 : UInt8), (9 : UInt8), (9 : UInt8)]) (0 : Nat) (Int.toNat (Go.IntKind.wrap Go.IntKind.i64 x_1)))) w' else J w' else J w else J w) ∧ bif
 Decidable.decide ((↑(UInt8.toNat b) : Int) = (32 : Int)) then J_1 (Decidable.decide ((↑(UInt8.toNat b) : Int) = (32 : Int))) w else bif Decidable.decide ((↑(UInt8.toNat b) : Int) = (45 : Int)) then J_1
 (Decidable.decide ((↑(UInt8.toNat b) : Int) = (45 : Int))) w else bif Decidable.decide ((↑(UInt8.toNat b) : Int) = (48 : Int)) then J_1 (Decidable.decide ((↑(UInt8.toNat b) : Int) = (48 : Int))) w else
 bif Decidable.decide ((↑(UInt8.toNat b) : Int) = (61 : Int)) then J_1 (Decidable.decide ((↑(UInt8.toNat b) : Int) = (61 : Int))) w else J_1 (Decidable.decide ((↑(UInt8.toNat b) : Int) = (9 : Int))) w)
 ∧ bif Decidable.decide ((0 : Int) < x) then False else bif Decidable.decide ((9223372036854775807 : Int) < x_1) then False else J w') ∧ bif Decidable.decide (count < (0 : Int)) then False else J w
theorem strings_Repeat.eq (s : ByteArray) (count : Int) (w : World) (K : Value → World → Prop) : strings_Repeat.W s count w K = fnW Try.prog Try.f30 (.named (.seq .auto (.seq .auto (.join [] .auto (.seq .auto (.join [] .auto (.seq .auto (.seq .auto (.join [] (.seq .auto (.block (.join [(43, .one .bool)] .auto .auto))) (.seq .auto (.join [(8, .one (.int .i64))] .auto (.seq .auto (.seq .auto (.seq .auto (.seq (.block (.loop [] .auto)) .auto))))))))))))))) [.string s, .int .i64 count] w K := by kernel_rfl
theorem strings_Repeat.calls (ok : Okay Try.prog) {s : ByteArray} {count : Int} {w : World} {K : Value → World → Prop} (h : strings_Repeat.W s count w K) : CallsV Try.prog 30 #[.string s, .int .i64 count] w K :=
  fnW_calls ok Try.func30 (an := (.named (.seq .auto (.seq .auto (.join [] .auto (.seq .auto (.join [] .auto (.seq .auto (.seq .auto (.join [] (.seq .auto (.block (.join [(43, .one .bool)] .auto .auto))) (.seq .auto (.join [(8, .one (.int .i64))] .auto (.seq .auto (.seq .auto (.seq .auto (.seq (.block (.loop [] .auto)) .auto)))))))))))))))) (args := [.string s, .int .i64 count]) (by rw [← strings_Repeat.eq]; exact h)
noncomputable def strings_Builder_Grow.W : Option Addr → Int → World → (Value → World → Prop) → Prop := fun (b : Option Go.Addr) (n : Int) (w : Go.World) (K : Go.Value → Go.World → Prop) =>
 Go.Sx.CallsV Go.Proofs.Try.prog (79 : Nat) #[Go.Value.pointer b] w fun (v : Go.Value) (w' : Go.World) => v = Go.Value.tuple #[] ∧ ∃ (J : Go.World → Prop), (∀ (w : Go.World), J w → ∃ (a : Go.Addr), b =
 Option.some a ∧ ∃ (S : Go.World → Prop), S (Go.World.drew w) ∧ ∃ (x : Option Go.Addr), ∃ (x_1 : Nat), ∃ (x_2 : Nat), (∀ (u : Go.World), S u → Go.World.cell? u (Go.Addr.add a (1 : Nat)) = Option.some
 (Go.Value.slice x x_1 x_2)) ∧ ∃ (a : Go.Addr), b = Option.some a ∧ ∃ (x : Option Go.Addr), ∃ (x_3 : Nat), ∃ (x_4 : Nat), (∀ (u : Go.World), S u → Go.World.cell? u (Go.Addr.add a (1 : Nat)) =
 Option.some (Go.Value.slice x x_3 x_4)) ∧ bif Decidable.decide (Go.IntKind.wrap Go.IntKind.i64 ((↑x_2 : Int) - (↑x_3 : Int)) < n) then Go.Sx.CallsV Go.Proofs.Try.prog (80 : Nat) #[Go.Value.pointer b,
 Go.Value.int Go.IntKind.i64 n] (Go.World.drew w) fun (v : Go.Value) (w' : Go.World) => v = Go.Value.tuple #[] ∧ K (Go.Value.tuple #[]) w' else K (Go.Value.tuple #[]) (Go.World.drew w)) ∧ bif
 Decidable.decide (n < (0 : Int)) then False else J w'
theorem strings_Builder_Grow.eq (b : Option Addr) (n : Int) (w : World) (K : Value → World → Prop) : strings_Builder_Grow.W b n w K = fnW Try.prog Try.f53 (.named (.seq .auto (.join [] .auto .auto))) [.pointer b, .int .i64 n] w K := by kernel_rfl
theorem strings_Builder_Grow.calls (ok : Okay Try.prog) {b : Option Addr} {n : Int} {w : World} {K : Value → World → Prop} (h : strings_Builder_Grow.W b n w K) : CallsV Try.prog 53 #[.pointer b, .int .i64 n] w K :=
  fnW_calls ok Try.func53 (an := (.named (.seq .auto (.join [] .auto .auto)))) (args := [.pointer b, .int .i64 n]) (by rw [← strings_Builder_Grow.eq]; exact h)
noncomputable def strings_Builder_WriteString.W : Option Addr → ByteArray → World → (Value → World → Prop) → Prop := fun (b : Option Go.Addr) (s : ByteArray) (w : Go.World) (K : Go.Value → Go.World →
 Prop) => Go.Sx.CallsV Go.Proofs.Try.prog (79 : Nat) #[Go.Value.pointer b] w fun (v : Go.Value) (w' : Go.World) => v = Go.Value.tuple #[] ∧ ∃ (a : Go.Addr), b = Option.some a ∧ ∃ (x : Option Go.Addr), ∃
 (x_1 : Nat), ∃ (x_2 : Nat), Go.World.cell? w' (Go.Addr.add a (1 : Nat)) = Option.some (Go.Value.slice x x_1 x_2) ∧ ∃ (x_3 : Option Go.Addr), ∃ (x_4 : Nat), ∃ (x_5 : Nat), ∃ (w'_1 : Go.World),
 Go.Sx.RunsTo Go.Proofs.Try.prog (Go.Builtin.append_ (Array.mk [(76 : Nat), (9 : Nat)]) (76 : Nat) #[Go.Value.slice x x_1 x_2, Go.Value.string s]) w' (Go.Value.slice x_3 x_4 x_5) w'_1 ∧ ∃ (a : Go.Addr),
 b = Option.some a ∧ Go.Sx.stOK (Go.Addr.add a (1 : Nat)) (0 : Nat) [Go.Value.slice x_3 x_4 x_5] w'_1 ∧ ∀ (w' : Go.World), w' = Go.Sx.setAll (Go.Addr.add a (1 : Nat)) (0 : Nat) [Go.Value.slice x_3 x_4
 x_5] w'_1 → K (Go.Value.tuple #[Go.Value.int Go.IntKind.i64 (↑(ByteArray.size s) : Int), Go.Value.nilIface]) w'
theorem strings_Builder_WriteString.eq (b : Option Addr) (s : ByteArray) (w : World) (K : Value → World → Prop) : strings_Builder_WriteString.W b s w K = fnW Try.prog Try.f54 (.named .auto) [.pointer b, .string s] w K := by kernel_rfl
theorem strings_Builder_WriteString.calls (ok : Okay Try.prog) {b : Option Addr} {s : ByteArray} {w : World} {K : Value → World → Prop} (h : strings_Builder_WriteString.W b s w K) : CallsV Try.prog 54 #[.pointer b, .string s] w K :=
  fnW_calls ok Try.func54 (an := (.named .auto)) (args := [.pointer b, .string s]) (by rw [← strings_Builder_WriteString.eq]; exact h)
noncomputable def strings_Builder_Len.W : Option Addr → World → (Value → World → Prop) → Prop := fun (b : Option Go.Addr) (w : Go.World) (K : Go.Value → Go.World → Prop) => ∃ (a : Go.Addr), b =
 Option.some a ∧ ∃ (x : Option Go.Addr), ∃ (x_1 : Nat), ∃ (x_2 : Nat), Go.World.cell? w (Go.Addr.add a (1 : Nat)) = Option.some (Go.Value.slice x x_1 x_2) ∧ K (Go.Value.int Go.IntKind.i64 (↑x_1 : Int))
 w
theorem strings_Builder_Len.eq (b : Option Addr) (w : World) (K : Value → World → Prop) : strings_Builder_Len.W b w K = fnW Try.prog Try.f55 (.named .auto) [.pointer b] w K := by kernel_rfl
theorem strings_Builder_Len.calls (ok : Okay Try.prog) {b : Option Addr} {w : World} {K : Value → World → Prop} (h : strings_Builder_Len.W b w K) : CallsV Try.prog 55 #[.pointer b] w K :=
  fnW_calls ok Try.func55 (an := (.named .auto)) (args := [.pointer b]) (by rw [← strings_Builder_Len.eq]; exact h)
noncomputable def strings_Builder_String.W : Option Addr → World → (Value → World → Prop) → Prop := fun (b : Option Go.Addr) (w : Go.World) (K : Go.Value → Go.World → Prop) => ∃ (a : Go.Addr), b =
 Option.some a ∧ ∃ (S : Go.World → Prop), S (Go.World.drew w) ∧ ∃ (x : Option Go.Addr), ∃ (x_1 : Nat), ∃ (x_2 : Nat), (∀ (u : Go.World), S u → Go.World.cell? u (Go.Addr.add a (1 : Nat)) = Option.some
 (Go.Value.slice x x_1 x_2)) ∧ ∃ (a : Go.Addr), b = Option.some a ∧ ∃ (x_3 : Option Go.Addr), ∃ (x_4 : Nat), ∃ (x_5 : Nat), (∀ (u : Go.World), S u → Go.World.cell? u (Go.Addr.add a (1 : Nat)) =
 Option.some (Go.Value.slice x_3 x_4 x_5)) ∧ ∃ (x_6 : Option Go.Addr), ∃ (w' : Go.World), Go.Sx.RunsTo Go.Proofs.Try.prog (Go.Builtin.unsafeSliceData_ (Array.mk [(76 : Nat)]) (123 : Nat)
 #[Go.Value.slice x x_1 x_2]) (Go.World.drew w) (Go.Value.pointer x_6) w' ∧ S w' ∧ ∃ (x : ByteArray), ∃ (w'_1 : Go.World), Go.Sx.RunsTo Go.Proofs.Try.prog (Go.Builtin.unsafeString_ (Array.mk [(123 :
 Nat), (3 : Nat)]) (9 : Nat) #[Go.Value.pointer x_6, Go.Value.int Go.IntKind.i64 (↑x_4 : Int)]) w' (Go.Value.string x) w'_1 ∧ S w'_1 ∧ K (Go.Value.string x) w'_1
theorem strings_Builder_String.eq (b : Option Addr) (w : World) (K : Value → World → Prop) : strings_Builder_String.W b w K = fnW Try.prog Try.f56 (.named .auto) [.pointer b] w K := by kernel_rfl
theorem strings_Builder_String.calls (ok : Okay Try.prog) {b : Option Addr} {w : World} {K : Value → World → Prop} (h : strings_Builder_String.W b w K) : CallsV Try.prog 56 #[.pointer b] w K :=
  fnW_calls ok Try.func56 (an := (.named .auto)) (args := [.pointer b]) (by rw [← strings_Builder_String.eq]; exact h)
noncomputable def strings_Builder_copyCheck.W : Option Addr → World → (Value → World → Prop) → Prop := fun (b : Option Go.Addr) (w : Go.World) (K : Go.Value → Go.World → Prop) => ∃ (a : Go.Addr), b =
 Option.some a ∧ ∃ (x : Option Go.Addr), Go.World.cell? w (Go.Addr.add a (0 : Nat)) = Option.some (Go.Value.pointer x) ∧ bif Option.isNone x then ∃ (v : Go.Value), ∃ (w' : Go.World), Go.Sx.RunsTo
 Go.Proofs.Try.prog (Go.convert (93 : Nat) (131 : Nat) (Go.Value.pointer b)) w v w' ∧ ∃ (v_1 : Go.Value), ∃ (w'_1 : Go.World), Go.Sx.RunsTo Go.Proofs.Try.prog (Go.callFunc (91 : Nat) #[v]) w'
 (Go.Next.value v_1) w'_1 ∧ ∃ (x : Option Go.Addr), ∃ (w' : Go.World), Go.Sx.RunsTo Go.Proofs.Try.prog (Go.convert (131 : Nat) (93 : Nat) v_1) w'_1 (Go.Value.pointer x) w' ∧ ∃ (a : Go.Addr), b =
 Option.some a ∧ Go.Sx.stOK (Go.Addr.add a (0 : Nat)) (0 : Nat) [Go.Value.pointer x] w' ∧ ∀ (w'_2 : Go.World), w'_2 = Go.Sx.setAll (Go.Addr.add a (0 : Nat)) (0 : Nat) [Go.Value.pointer x] w' → K
 (Go.Value.tuple #[]) w'_2 else ∃ (a : Go.Addr), b = Option.some a ∧ ∃ (x : Option Go.Addr), Go.World.cell? w (Go.Addr.add a (0 : Nat)) = Option.some (Go.Value.pointer x) ∧ ∃ (ad : Go.Addr), (x =
 Option.some ad ∧ b = Option.some ad) ∧ K (Go.Value.tuple #[]) w
theorem strings_Builder_copyCheck.eq (b : Option Addr) (w : World) (K : Value → World → Prop) : strings_Builder_copyCheck.W b w K = fnW Try.prog Try.f79 (.named .auto) [.pointer b] w K := by kernel_rfl
theorem strings_Builder_copyCheck.calls (ok : Okay Try.prog) {b : Option Addr} {w : World} {K : Value → World → Prop} (h : strings_Builder_copyCheck.W b w K) : CallsV Try.prog 79 #[.pointer b] w K :=
  fnW_calls ok Try.func79 (an := (.named .auto)) (args := [.pointer b]) (by rw [← strings_Builder_copyCheck.eq]; exact h)
noncomputable def strings_Builder_grow.W : Option Addr → Int → World → (Value → World → Prop) → Prop := fun (b : Option Go.Addr) (n : Int) (w : Go.World) (K : Go.Value → Go.World → Prop) => ∃ (a :
 Go.Addr), b = Option.some a ∧ ∃ (S : Go.World → Prop), S (Go.World.drew w) ∧ ∃ (x : Option Go.Addr), ∃ (x_1 : Nat), ∃ (x_2 : Nat), (∀ (u : Go.World), S u → Go.World.cell? u (Go.Addr.add a (1 : Nat)) =
 Option.some (Go.Value.slice x x_1 x_2)) ∧ ∃ (a : Go.Addr), b = Option.some a ∧ ∃ (x : Option Go.Addr), ∃ (x_3 : Nat), ∃ (x_4 : Nat), (∀ (u : Go.World), S u → Go.World.cell? u (Go.Addr.add a (1 : Nat))
 = Option.some (Go.Value.slice x x_3 x_4)) ∧ ∃ (x : Option Go.Addr), ∃ (x_5 : Nat), ∃ (x_6 : Nat), ∃ (w' : Go.World), Go.Sx.RunsTo Go.Proofs.Try.prog (Go.callFunc (92 : Nat) #[Go.Value.int
 Go.IntKind.i64 (Go.IntKind.wrap Go.IntKind.i64 (Go.IntKind.wrap Go.IntKind.i64 ((2 : Int) * (↑x_2 : Int)) + n))]) (Go.World.drew w) (Go.Next.value (Go.Value.slice x x_5 x_6)) w' ∧ S w' ∧ ((0 : Int) ≤
 (↑x_3 : Int) ∧ (↑x_3 : Int) ≤ (↑x_6 : Int)) ∧ ∃ (a : Go.Addr), b = Option.some a ∧ ∃ (x_7 : Option Go.Addr), ∃ (x_8 : Nat), ∃ (x_9 : Nat), Go.World.cell? w' (Go.Addr.add a (1 : Nat)) = Option.some
 (Go.Value.slice x_7 x_8 x_9) ∧ ∃ (x_10 : Int), ∃ (w'_1 : Go.World), Go.Sx.RunsTo Go.Proofs.Try.prog (Go.Builtin.copy_ (Array.mk [(76 : Nat), (76 : Nat)]) (3 : Nat) #[Go.Value.slice (Go.Sx.cutAt x x_6
 (0 : Nat) (1 : Nat)) (Int.toNat (↑x_3 : Int) - (0 : Nat)) (x_6 - (0 : Nat)), Go.Value.slice x_7 x_8 x_9]) w' (Go.Value.int Go.IntKind.i64 x_10) w'_1 ∧ ∃ (a : Go.Addr), b = Option.some a ∧ Go.Sx.stOK
 (Go.Addr.add a (1 : Nat)) (0 : Nat) [Go.Value.slice (Go.Sx.cutAt x x_6 (0 : Nat) (1 : Nat)) (Int.toNat (↑x_3 : Int) - (0 : Nat)) (x_6 - (0 : Nat))] w'_1 ∧ ∀ (w' : Go.World), w' = Go.Sx.setAll
 (Go.Addr.add a (1 : Nat)) (0 : Nat) [Go.Value.slice (Go.Sx.cutAt x x_6 (0 : Nat) (1 : Nat)) (Int.toNat (↑x_3 : Int) - (0 : Nat)) (x_6 - (0 : Nat))] w'_1 → K (Go.Value.tuple #[]) w'
theorem strings_Builder_grow.eq (b : Option Addr) (n : Int) (w : World) (K : Value → World → Prop) : strings_Builder_grow.W b n w K = fnW Try.prog Try.f80 (.named .auto) [.pointer b, .int .i64 n] w K := by kernel_rfl
theorem strings_Builder_grow.calls (ok : Okay Try.prog) {b : Option Addr} {n : Int} {w : World} {K : Value → World → Prop} (h : strings_Builder_grow.W b n w K) : CallsV Try.prog 80 #[.pointer b, .int .i64 n] w K :=
  fnW_calls ok Try.func80 (an := (.named .auto)) (args := [.pointer b, .int .i64 n]) (by rw [← strings_Builder_grow.eq]; exact h)
noncomputable def math_bits_Mul.W : Int → Int → World → (Value → World → Prop) → Prop := fun (x y : Int) (w : Go.World) (K : Go.Value → Go.World → Prop) => Go.Sx.CallsV Go.Proofs.Try.prog (77 : Nat)
 #[Go.Value.int Go.IntKind.u64 x, Go.Value.int Go.IntKind.u64 y] w fun (v : Go.Value) (w' : Go.World) => ∃ (x : Int), ∃ (x_1 : Int), v = Go.Value.tuple #[Go.Value.int Go.IntKind.u64 x, Go.Value.int
 Go.IntKind.u64 x_1] ∧ K (Go.Value.tuple #[Go.Value.int Go.IntKind.u64 x, Go.Value.int Go.IntKind.u64 x_1]) w'
theorem math_bits_Mul.eq (x : Int) (y : Int) (w : World) (K : Value → World → Prop) : math_bits_Mul.W x y w K = fnW Try.prog Try.f51 (.named .auto) [.int .u64 x, .int .u64 y] w K := by kernel_rfl
theorem math_bits_Mul.calls (ok : Okay Try.prog) {x : Int} {y : Int} {w : World} {K : Value → World → Prop} (h : math_bits_Mul.W x y w K) : CallsV Try.prog 51 #[.int .u64 x, .int .u64 y] w K :=
  fnW_calls ok Try.func51 (an := (.named .auto)) (args := [.int .u64 x, .int .u64 y]) (by rw [← math_bits_Mul.eq]; exact h)
noncomputable def math_bits_Mul64.W : Int → Int → World → (Value → World → Prop) → Prop := fun (x y : Int) (w : Go.World) (K : Go.Value → Go.World → Prop) => (0 : Int) ≤ (32 : Int) ∧ (0 : Int) ≤ (32 :
 Int) ∧ (0 : Int) ≤ (32 : Int) ∧ (0 : Int) ≤ (32 : Int) ∧ (0 : Int) ≤ (32 : Int) ∧ K (Go.Value.tuple #[Go.Value.int Go.IntKind.u64 (Go.IntKind.wrap Go.IntKind.u64 (Go.IntKind.wrap Go.IntKind.u64
 (Go.IntKind.wrap Go.IntKind.u64 (Int.fdiv x ((2 : Int) ^ Min.min (Int.toNat (32 : Int)) (64 : Nat)) * Int.fdiv y ((2 : Int) ^ Min.min (Int.toNat (32 : Int)) (64 : Nat))) + Int.fdiv (Go.IntKind.wrap
 Go.IntKind.u64 (Go.IntKind.wrap Go.IntKind.u64 (Int.fdiv x ((2 : Int) ^ Min.min (Int.toNat (32 : Int)) (64 : Nat)) * Go.IntKind.wrap Go.IntKind.u64 (↑(BitVec.toNat (BitVec.ofInt (64 : Nat) y &&&
 BitVec.ofInt (64 : Nat) (4294967295 : Int))) : Int)) + Int.fdiv (Go.IntKind.wrap Go.IntKind.u64 (Go.IntKind.wrap Go.IntKind.u64 (↑(BitVec.toNat (BitVec.ofInt (64 : Nat) x &&& BitVec.ofInt (64 : Nat)
 (4294967295 : Int))) : Int) * Go.IntKind.wrap Go.IntKind.u64 (↑(BitVec.toNat (BitVec.ofInt (64 : Nat) y &&& BitVec.ofInt (64 : Nat) (4294967295 : Int))) : Int))) ((2 : Int) ^ Min.min (Int.toNat (32 :
 Int)) (64 : Nat)))) ((2 : Int) ^ Min.min (Int.toNat (32 : Int)) (64 : Nat))) + Int.fdiv (Go.IntKind.wrap Go.IntKind.u64 (Go.IntKind.wrap Go.IntKind.u64 (↑(BitVec.toNat (BitVec.ofInt (64 : Nat)
 (Go.IntKind.wrap Go.IntKind.u64 (Go.IntKind.wrap Go.IntKind.u64 (Int.fdiv x ((2 : Int) ^ Min.min (Int.toNat (32 : Int)) (64 : Nat)) * Go.IntKind.wrap Go.IntKind.u64 (↑(BitVec.toNat (BitVec.ofInt (64 :
 Nat) y &&& BitVec.ofInt (64 : Nat) (4294967295 : Int))) : Int)) + Int.fdiv (Go.IntKind.wrap Go.IntKind.u64 (Go.IntKind.wrap Go.IntKind.u64 (↑(BitVec.toNat (BitVec.ofInt (64 : Nat) x &&& BitVec.ofInt
 (64 : Nat) (4294967295 : Int))) : Int) * Go.IntKind.wrap Go.IntKind.u64 (↑(BitVec.toNat (BitVec.ofInt (64 : Nat) y &&& BitVec.ofInt (64 : Nat) (4294967295 : Int))) : Int))) ((2 : Int) ^ Min.min
 (Int.toNat (32 : Int)) (64 : Nat)))) &&& BitVec.ofInt (64 : Nat) (4294967295 : Int))) : Int) + Go.IntKind.wrap Go.IntKind.u64 (Go.IntKind.wrap Go.IntKind.u64 (↑(BitVec.toNat (BitVec.ofInt (64 : Nat) x
 &&& BitVec.ofInt (64 : Nat) (4294967295 : Int))) : Int) * Int.fdiv y ((2 : Int) ^ Min.min (Int.toNat (32 : Int)) (64 : Nat))))) ((2 : Int) ^ Min.min (Int.toNat (32 : Int)) (64 : Nat)))), Go.Value.int
 Go.IntKind.u64 (Go.IntKind.wrap Go.IntKind.u64 (x * y))]) w
theorem math_bits_Mul64.eq (x : Int) (y : Int) (w : World) (K : Value → World → Prop) : math_bits_Mul64.W x y w K = fnW Try.prog Try.f77 (.named .auto) [.int .u64 x, .int .u64 y] w K := by kernel_rfl
theorem math_bits_Mul64.calls (ok : Okay Try.prog) {x : Int} {y : Int} {w : World} {K : Value → World → Prop} (h : math_bits_Mul64.W x y w K) : CallsV Try.prog 77 #[.int .u64 x, .int .u64 y] w K :=
  fnW_calls ok Try.func77 (an := (.named .auto)) (args := [.int .u64 x, .int .u64 y]) (by rw [← math_bits_Mul64.eq]; exact h)
end Go.Proofs.Ytakmlaliglmnmaa
