/- The preconditions of Go functions, printed by a program of this workplace (nests.py); each is proved to be the engine's own. -/
import Derived.Test.YtbpcfkahnhlahaaProg
import Derived.Test.YtbpcfkahnhlahaaSxWp
set_option linter.unusedVariables false
set_option maxRecDepth 100000
namespace Go.Proofs.Ytbpcfkahnhlahaa
open Go Go.Sx
noncomputable def cardindexlaw01_BytesPowers.W : Int → Int → World → (Value → World → Prop) → Prop := fun (n m : Int) (w : Go.World) (K : Go.Value → Go.World → Prop) => Go.Sx.CallsV Go.Proofs.Try.prog
 (20 : Nat) #[Go.Value.slice Option.none (0 : Nat) (0 : Nat), Go.Value.int Go.IntKind.u64 n] w fun (v : Go.Value) (w' : Go.World) => ∃ (x : Option Go.Addr), ∃ (x_1 : Nat), ∃ (x_2 : Nat), v =
 Go.Value.slice x x_1 x_2 ∧ Go.Sx.CallsV Go.Proofs.Try.prog (20 : Nat) #[Go.Value.slice Option.none (0 : Nat) (0 : Nat), Go.Value.int Go.IntKind.u64 m] w' fun (v : Go.Value) (w' : Go.World) => ∃ (x_3 :
 Option Go.Addr), ∃ (x_4 : Nat), ∃ (x_5 : Nat), v = Go.Value.slice x_3 x_4 x_5 ∧ ∃ (I : Int → Int → Go.World → Prop), ∃ (μ : Int → Int → Go.World → Nat), I (1 : Int) (1 : Int) w' ∧ ∀ (x_6 x_7 : Int) (w
 : Go.World), I x_6 x_7 w → bif Decidable.decide (x_7 < (10 : Int)) then (0 : Int) ≤ Go.IntKind.wrap Go.IntKind.i64 ((7 : Int) * x_7) ∧ bif Decidable.decide (Go.IntKind.wrap Go.IntKind.u64 ((1 : Int) *
 (2 : Int) ^ Min.min (Int.toNat (Go.IntKind.wrap Go.IntKind.i64 ((7 : Int) * x_7))) (64 : Nat)) ≤ n) then I (Go.IntKind.wrap Go.IntKind.i64 (x_6 + (1 : Int))) (Go.IntKind.wrap Go.IntKind.i64 (x_7 + (1 :
 Int))) w ∧ μ (Go.IntKind.wrap Go.IntKind.i64 (x_6 + (1 : Int))) (Go.IntKind.wrap Go.IntKind.i64 (x_7 + (1 : Int))) w < μ x_6 x_7 w else I x_6 (Go.IntKind.wrap Go.IntKind.i64 (x_7 + (1 : Int))) w ∧ μ
 x_6 (Go.IntKind.wrap Go.IntKind.i64 (x_7 + (1 : Int))) w < μ x_6 x_7 w else bif !Decidable.decide ((↑x_1 : Int) = x_6) then K (Go.Value.bool Bool.false) w else bif Decidable.decide ((↑x_4 : Int) = (0 :
 Int)) then K (Go.Value.bool Bool.false) w else ∃ (J : Bool → Go.World → Prop), (∀ (x_8 : Bool) (w : Go.World), J x_8 w → bif !Decidable.decide (x_8 = Decidable.decide (n < m)) then K (Go.Value.bool
 Bool.false) w else bif Decidable.decide (n = (0 : Int)) then Go.Sx.CallsV Go.Proofs.Try.prog (14 : Nat) #[] w fun (v : Go.Value) (w' : Go.World) => ∃ (x : Bool), v = Go.Value.bool x ∧ K (Go.Value.bool
 x) w' else bif Decidable.decide ((144115188075855872 : Int) ≤ n) then Go.Sx.CallsV Go.Proofs.Try.prog (14 : Nat) #[] w fun (v : Go.Value) (w' : Go.World) => ∃ (x : Bool), v = Go.Value.bool x ∧ K
 (Go.Value.bool x) w' else ∃ (S : Go.World → Prop), S (Go.World.drew w) ∧ (0 : Int) ≤ (7 : Int) ∧ ∃ (r : ByteArray), (∀ (u : Go.World), S u → Go.Sx.RunsTo Go.Proofs.Try.prog (Go.convert (30 : Nat) (9 :
 Nat) (Go.Value.slice x x_1 x_2)) u (Go.Value.string r) u) ∧ ByteArray.size (ByteArray.mk #[(128 : UInt8)]) + ByteArray.size r ≤ (9223372036854775807 : Nat) ∧ Go.Sx.CallsV Go.Proofs.Try.prog (20 : Nat)
 #[Go.Value.slice Option.none (0 : Nat) (0 : Nat), Go.Value.int Go.IntKind.u64 (Go.IntKind.wrap Go.IntKind.u64 (n * (2 : Int) ^ Min.min (Int.toNat (7 : Int)) (64 : Nat)))] (Go.World.drew w) fun (v :
 Go.Value) (w' : Go.World) => ∃ (x : Option Go.Addr), ∃ (x_9 : Nat), ∃ (x_10 : Nat), v = Go.Value.slice x x_9 x_10 ∧ ∃ (S' : Go.World → Prop), (∀ (u : Go.World), S' u → S u) ∧ S' w' ∧ ∃ (r_1 :
 ByteArray), (∀ (u : Go.World), S' u → Go.Sx.RunsTo Go.Proofs.Try.prog (Go.convert (30 : Nat) (9 : Nat) (Go.Value.slice x x_9 x_10)) u (Go.Value.string r_1) u) ∧ bif ByteArray.toList r_1 ==
 ByteArray.toList (ByteArray.mk #[(128 : UInt8)] ++ r) then Go.Sx.CallsV Go.Proofs.Try.prog (14 : Nat) #[] w' fun (v : Go.Value) (w' : Go.World) => ∃ (x : Bool), v = Go.Value.bool x ∧ ∃ (S'_1 : Go.World
 → Prop), (∀ (u : Go.World), S'_1 u → S' u) ∧ S'_1 w' ∧ K (Go.Value.bool x) w' else K (Go.Value.bool Bool.false) w') ∧ ∃ (I : Bool → Int → Go.World → Prop), ∃ (μ : Bool → Int → Go.World → Nat), I
 (Decidable.decide ((↑x_1 : Int) < (↑x_4 : Int))) (Go.IntKind.wrap Go.IntKind.i64 ((↑x_1 : Int) - (1 : Int))) w ∧ ∀ (x_8 : Bool) (x_9 : Int) (w : Go.World), I x_8 x_9 w → bif Decidable.decide ((0 : Int)
 ≤ x_9) then bif Decidable.decide ((↑x_1 : Int) = (↑x_4 : Int)) then ∃ (S : Go.World → Prop), S (Go.World.drew w) ∧ ∃ (ad : Go.Addr), x = Option.some ad ∧ ((0 : Int) ≤ x_9 ∧ x_9 < (↑x_1 : Int)) ∧ ∃
 (x_10 : Int), (∀ (u : Go.World), S u → Go.World.cell? u (Go.Addr.add ad (Int.toNat x_9 * (1 : Nat))) = Option.some (Go.Value.int Go.IntKind.u8 x_10)) ∧ ∃ (ad : Go.Addr), x_3 = Option.some ad ∧ ((0 :
 Int) ≤ x_9 ∧ x_9 < (↑x_4 : Int)) ∧ ∃ (x_11 : Int), (∀ (u : Go.World), S u → Go.World.cell? u (Go.Addr.add ad (Int.toNat x_9 * (1 : Nat))) = Option.some (Go.Value.int Go.IntKind.u8 x_11)) ∧ bif
 !Decidable.decide (x_10 = x_11) then ∃ (S : Go.World → Prop), S (Go.World.drew (Go.World.drew w)) ∧ ∃ (ad : Go.Addr), x = Option.some ad ∧ ((0 : Int) ≤ x_9 ∧ x_9 < (↑x_1 : Int)) ∧ ∃ (x : Int), (∀ (u :
 Go.World), S u → Go.World.cell? u (Go.Addr.add ad (Int.toNat x_9 * (1 : Nat))) = Option.some (Go.Value.int Go.IntKind.u8 x)) ∧ ∃ (ad : Go.Addr), x_3 = Option.some ad ∧ ((0 : Int) ≤ x_9 ∧ x_9 < (↑x_4 :
 Int)) ∧ ∃ (x_12 : Int), (∀ (u : Go.World), S u → Go.World.cell? u (Go.Addr.add ad (Int.toNat x_9 * (1 : Nat))) = Option.some (Go.Value.int Go.IntKind.u8 x_12)) ∧ J (Decidable.decide (x < x_12))
 (Go.World.drew (Go.World.drew w)) else I x_8 (Go.IntKind.wrap Go.IntKind.i64 (x_9 - (1 : Int))) (Go.World.drew w) ∧ μ x_8 (Go.IntKind.wrap Go.IntKind.i64 (x_9 - (1 : Int))) (Go.World.drew w) < μ x_8
 x_9 w else J x_8 w else J x_8 w
theorem cardindexlaw01_BytesPowers.eq (n : Int) (m : Int) (w : World) (K : Value → World → Prop) : cardindexlaw01_BytesPowers.W n m w K = fnW Try.prog Try.f7 (.seq .auto (.seq .auto (.seq .auto (.seq (.seq .auto (.block (.loop [(7, .one (.int .i64)), (8, .one (.int .i64))] .auto))) (.seq .auto (.seq .auto (.join [(9, .one .bool)] (.seq .auto (.block (.loop [(9, .one .bool), (10, .one (.int .i64))] .auto))) .auto))))))) [.int .u64 n, .int .u64 m] w K := by kernel_rfl
theorem cardindexlaw01_BytesPowers.calls (ok : Okay Try.prog) {n : Int} {m : Int} {w : World} {K : Value → World → Prop} (h : cardindexlaw01_BytesPowers.W n m w K) : CallsV Try.prog 7 #[.int .u64 n, .int .u64 m] w K :=
  fnW_calls ok Try.func7 (an := (.seq .auto (.seq .auto (.seq .auto (.seq (.seq .auto (.block (.loop [(7, .one (.int .i64)), (8, .one (.int .i64))] .auto))) (.seq .auto (.seq .auto (.join [(9, .one .bool)] (.seq .auto (.block (.loop [(9, .one .bool), (10, .one (.int .i64))] .auto))) .auto)))))))) (args := [.int .u64 n, .int .u64 m]) (by rw [← cardindexlaw01_BytesPowers.eq]; exact h)
noncomputable def cardindexlaw01_BytesCount.W : Option Addr → Nat → Nat → Int → World → (Value → World → Prop) → Prop := fun (b_A : Option Go.Addr) (b_n b_c : Nat) (fromx : Int) (w : Go.World) (K :
 Go.Value → Go.World → Prop) => bif Decidable.decide ((300 : Int) < (↑b_n : Int)) then Go.Sx.CallsV Go.Proofs.Try.prog (14 : Nat) #[] w fun (v : Go.Value) (w' : Go.World) => ∃ (x : Bool), v =
 Go.Value.bool x ∧ K (Go.Value.bool x) w' else Go.IntKind.wrap Go.IntKind.i64 ((↑b_n : Int) + (1 : Int)) ≠ (0 : Int) ∧ ∃ (J : Int → Int → Option Go.Addr → Nat → Nat → Go.World → Prop), (∀ (x x_1 : Int)
 (x_2 : Option Go.Addr) (x_3 x_4 : Nat) (w : Go.World), J x x_1 x_2 x_3 x_4 w → ((0 : Int) ≤ x ∧ x ≤ (↑b_c : Int)) ∧ ((0 : Int) ≤ Int.tmod (Go.IntKind.wrap Go.IntKind.i64 fromx) (Go.IntKind.wrap
 Go.IntKind.i64 ((↑b_n : Int) + (1 : Int))) ∧ Int.tmod (Go.IntKind.wrap Go.IntKind.i64 fromx) (Go.IntKind.wrap Go.IntKind.i64 ((↑b_n : Int) + (1 : Int))) ≤ (↑(Int.toNat x) : Int)) ∧ ∃ (I : Int → Int →
 Go.World → Prop), ∃ (μ : Int → Int → Go.World → Nat), I (0 : Int) (0 : Int) w ∧ ∀ (x_5 x_6 : Int) (w : Go.World), I x_5 x_6 w → bif Decidable.decide (x_6 < (↑(Int.toNat x - Int.toNat (Int.tmod
 (Go.IntKind.wrap Go.IntKind.i64 fromx) (Go.IntKind.wrap Go.IntKind.i64 ((↑b_n : Int) + (1 : Int))))) : Int)) then ∃ (ad : Go.Addr), Go.Sx.cutAt b_A b_c (Int.toNat (Int.tmod (Go.IntKind.wrap
 Go.IntKind.i64 fromx) (Go.IntKind.wrap Go.IntKind.i64 ((↑b_n : Int) + (1 : Int))))) (1 : Nat) = Option.some ad ∧ ((0 : Int) ≤ x_6 ∧ x_6 < (↑(Int.toNat x - Int.toNat (Int.tmod (Go.IntKind.wrap
 Go.IntKind.i64 fromx) (Go.IntKind.wrap Go.IntKind.i64 ((↑b_n : Int) + (1 : Int))))) : Int)) ∧ ∃ (x : Int), Go.World.cell? w (Go.Addr.add ad (Int.toNat x_6 * (1 : Nat))) = Option.some (Go.Value.int
 Go.IntKind.u8 x) ∧ bif Decidable.decide (x < (128 : Int)) then I (Go.IntKind.wrap Go.IntKind.i64 (x_5 + (1 : Int))) (Go.IntKind.wrap Go.IntKind.i64 (x_6 + (1 : Int))) w ∧ μ (Go.IntKind.wrap
 Go.IntKind.i64 (x_5 + (1 : Int))) (Go.IntKind.wrap Go.IntKind.i64 (x_6 + (1 : Int))) w < μ x_5 x_6 w else I x_5 (Go.IntKind.wrap Go.IntKind.i64 (x_6 + (1 : Int))) w ∧ μ x_5 (Go.IntKind.wrap
 Go.IntKind.i64 (x_6 + (1 : Int))) w < μ x_5 x_6 w else ∃ (S : Go.World → Prop), S (Go.World.drew w) ∧ bif Decidable.decide (x_5 = x_1) then ∃ (r : ByteArray), (∀ (u : Go.World), S u → Go.Sx.RunsTo
 Go.Proofs.Try.prog (Go.convert (30 : Nat) (9 : Nat) (Go.Value.slice x_2 x_3 x_4)) u (Go.Value.string r) u) ∧ ((0 : Int) ≤ x ∧ x ≤ (↑b_c : Int)) ∧ ((0 : Int) ≤ Int.tmod (Go.IntKind.wrap Go.IntKind.i64
 fromx) (Go.IntKind.wrap Go.IntKind.i64 ((↑b_n : Int) + (1 : Int))) ∧ Int.tmod (Go.IntKind.wrap Go.IntKind.i64 fromx) (Go.IntKind.wrap Go.IntKind.i64 ((↑b_n : Int) + (1 : Int))) ≤ (↑(Int.toNat x) :
 Int)) ∧ ∃ (r_1 : ByteArray), (∀ (u : Go.World), S u → Go.Sx.RunsTo Go.Proofs.Try.prog (Go.convert (30 : Nat) (9 : Nat) (Go.Value.slice (Go.Sx.cutAt b_A b_c (Int.toNat (Int.tmod (Go.IntKind.wrap
 Go.IntKind.i64 fromx) (Go.IntKind.wrap Go.IntKind.i64 ((↑b_n : Int) + (1 : Int))))) (1 : Nat)) (Int.toNat x - Int.toNat (Int.tmod (Go.IntKind.wrap Go.IntKind.i64 fromx) (Go.IntKind.wrap Go.IntKind.i64
 ((↑b_n : Int) + (1 : Int))))) (b_c - Int.toNat (Int.tmod (Go.IntKind.wrap Go.IntKind.i64 fromx) (Go.IntKind.wrap Go.IntKind.i64 ((↑b_n : Int) + (1 : Int))))))) u (Go.Value.string r_1) u) ∧ bif
 ByteArray.toList r == ByteArray.toList r_1 then Go.Sx.CallsV Go.Proofs.Try.prog (14 : Nat) #[] (Go.World.drew w) fun (v : Go.Value) (w' : Go.World) => ∃ (x : Bool), v = Go.Value.bool x ∧ ∃ (S' :
 Go.World → Prop), (∀ (u : Go.World), S' u → S u) ∧ S' w' ∧ K (Go.Value.bool x) w' else K (Go.Value.bool Bool.false) (Go.World.drew w) else K (Go.Value.bool Bool.false) (Go.World.drew w)) ∧ ∃ (I : Int →
 Int → Option Go.Addr → Nat → Nat → Int → Go.World → Prop), ∃ (μ : Int → Int → Option Go.Addr → Nat → Nat → Int → Go.World → Nat), I (Int.tmod (Go.IntKind.wrap Go.IntKind.i64 fromx) (Go.IntKind.wrap
 Go.IntKind.i64 ((↑b_n : Int) + (1 : Int)))) (0 : Int) Option.none (0 : Nat) (0 : Nat) (0 : Int) w ∧ ∀ (x x_1 : Int) (x_2 : Option Go.Addr) (x_3 x_4 : Nat) (x_5 : Int) (w : Go.World), I x x_1 x_2 x_3
 x_4 x_5 w → bif Decidable.decide (x_5 < Go.IntKind.wrap Go.IntKind.i64 ((↑b_n : Int) + (1 : Int))) then Go.Sx.CallsV Go.Proofs.Try.prog (15 : Nat) #[Go.Value.slice b_A b_n b_c, Go.Value.int
 Go.IntKind.i64 x] w fun (v : Go.Value) (w' : Go.World) => ∃ (x_6 : Int), ∃ (x_7 : Int), ∃ (x_8 : Int), v = Go.Value.tuple #[Go.Value.int Go.IntKind.u64 x_6, Go.Value.int Go.IntKind.i64 x_7,
 Go.Value.int Go.IntKind.i64 x_8] ∧ bif !Decidable.decide (x_8 = (0 : Int)) then bif Decidable.decide (x_8 = (2 : Int)) then K (Go.Value.bool Bool.false) w' else bif Decidable.decide (x_8 = (11 : Int))
 then bif Decidable.decide ((9 : Int) < Go.IntKind.wrap Go.IntKind.i64 ((↑b_n : Int) - x)) then K (Go.Value.bool Bool.false) w' else J x x_1 x_2 x_3 x_4 w' else J x x_1 x_2 x_3 x_4 w' else bif
 Decidable.decide (x_7 ≤ x) then K (Go.Value.bool Bool.false) w' else bif Decidable.decide ((↑b_n : Int) < x_7) then K (Go.Value.bool Bool.false) w' else Go.Sx.CallsV Go.Proofs.Try.prog (20 : Nat)
 #[Go.Value.slice x_2 x_3 x_4, Go.Value.int Go.IntKind.u64 x_6] w' fun (v : Go.Value) (w' : Go.World) => ∃ (x_9 : Option Go.Addr), ∃ (x_10 : Nat), ∃ (x_11 : Nat), v = Go.Value.slice x_9 x_10 x_11 ∧ I
 x_7 (Go.IntKind.wrap Go.IntKind.i64 (x_1 + (1 : Int))) x_9 x_10 x_11 (Go.IntKind.wrap Go.IntKind.i64 (x_5 + (1 : Int))) w' ∧ μ x_7 (Go.IntKind.wrap Go.IntKind.i64 (x_1 + (1 : Int))) x_9 x_10 x_11
 (Go.IntKind.wrap Go.IntKind.i64 (x_5 + (1 : Int))) w' < μ x x_1 x_2 x_3 x_4 x_5 w else J x x_1 x_2 x_3 x_4 w
theorem cardindexlaw01_BytesCount.eq (b_A : Option Addr) (b_n : Nat) (b_c : Nat) (fromx : Int) (w : World) (K : Value → World → Prop) : cardindexlaw01_BytesCount.W b_A b_n b_c fromx w K = fnW Try.prog Try.f6 (.seq .auto (.seq .auto (.seq .auto (.seq .auto (.seq .auto (.join [(5, .one (.int .i64)), (7, .one (.int .i64)), (8, .one .slc)] (.seq .auto (.block (.loop [(5, .one (.int .i64)), (7, .one (.int .i64)), (8, .one .slc), (29, .one (.int .i64))] .auto))) (.seq .auto (.seq (.seq .auto (.block (.loop [(12, .one (.int .i64)), (74, .one (.int .i64))] .auto))) .auto)))))))) [.slice b_A b_n b_c, .int .u16 fromx] w K := by kernel_rfl
theorem cardindexlaw01_BytesCount.calls (ok : Okay Try.prog) {b_A : Option Addr} {b_n : Nat} {b_c : Nat} {fromx : Int} {w : World} {K : Value → World → Prop} (h : cardindexlaw01_BytesCount.W b_A b_n b_c fromx w K) : CallsV Try.prog 6 #[.slice b_A b_n b_c, .int .u16 fromx] w K :=
  fnW_calls ok Try.func6 (an := (.seq .auto (.seq .auto (.seq .auto (.seq .auto (.seq .auto (.join [(5, .one (.int .i64)), (7, .one (.int .i64)), (8, .one .slc)] (.seq .auto (.block (.loop [(5, .one (.int .i64)), (7, .one (.int .i64)), (8, .one .slc), (29, .one (.int .i64))] .auto))) (.seq .auto (.seq (.seq .auto (.block (.loop [(12, .one (.int .i64)), (74, .one (.int .i64))] .auto))) .auto))))))))) (args := [.slice b_A b_n b_c, .int .u16 fromx]) (by rw [← cardindexlaw01_BytesCount.eq]; exact h)
end Go.Proofs.Ytbpcfkahnhlahaa
