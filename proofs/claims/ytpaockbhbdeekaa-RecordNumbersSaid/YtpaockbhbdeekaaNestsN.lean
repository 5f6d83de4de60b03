/- The preconditions of Go functions, printed by a program of this workplace (nests.py); each is proved to be the engine's own. -/
import Derived.Test.YtpaockbhbdeekaaProg
import Derived.Test.YtpaockbhbdeekaaSxWp
set_option linter.unusedVariables false
set_option maxRecDepth 100000
namespace Go.Proofs.Ytpaockbhbdeekaa
open Go Go.Sx
noncomputable def cardindexlaw03_wrong.W : Option Addr → Nat → Nat → World → (Value → World → Prop) → Prop := fun (b_A : Option Go.Addr) (b_n b_c : Nat) (w : Go.World) (K : Go.Value → Go.World → Prop)
 => Go.Sx.CallsV Go.Proofs.Try.prog (24 : Nat) #[Go.Value.slice b_A b_n b_c] w fun (v : Go.Value) (w' : Go.World) => ∃ (x : Option Go.Addr), ∃ (x_1 : Nat), ∃ (x_2 : Nat), ∃ (x_3 : Int), v =
 Go.Value.tuple #[Go.Value.slice x x_1 x_2, Go.Value.int Go.IntKind.i64 x_3] ∧ bif Decidable.decide (x_3 = (10 : Int)) then K (Go.Value.bool (Decidable.decide ((↑x_1 : Int) = (0 : Int)))) w' else K
 (Go.Value.bool Bool.false) w'
theorem cardindexlaw03_wrong.eq (b_A : Option Addr) (b_n : Nat) (b_c : Nat) (w : World) (K : Value → World → Prop) : cardindexlaw03_wrong.W b_A b_n b_c w K = fnW Try.prog Try.f33 (.named .auto) [.slice b_A b_n b_c] w K := by kernel_rfl
theorem cardindexlaw03_wrong.calls (ok : Okay Try.prog) {b_A : Option Addr} {b_n : Nat} {b_c : Nat} {w : World} {K : Value → World → Prop} (h : cardindexlaw03_wrong.W b_A b_n b_c w K) : CallsV Try.prog 33 #[.slice b_A b_n b_c] w K :=
  fnW_calls ok Try.func33 (an := (.named .auto)) (args := [.slice b_A b_n b_c]) (by rw [← cardindexlaw03_wrong.eq]; exact h)
noncomputable def cardindexlaw03_none.W : Option Addr → Nat → Nat → World → (Value → World → Prop) → Prop := fun (b_A : Option Go.Addr) (b_n b_c : Nat) (w : Go.World) (K : Go.Value → Go.World → Prop)
 => ∀ (g : Nat) (w' : Go.World), Go.Sx.Fresh w g w' [Go.Value.bool Bool.false] (4 : Nat) → Go.Sx.CallsV Go.Proofs.Try.prog (26 : Nat) #[Go.Value.slice b_A b_n b_c, Go.Value.slice (Option.some
 (Go.Addr.mk g (0 : Nat) Option.none)) (1 : Nat) (1 : Nat)] w' fun (v : Go.Value) (w' : Go.World) => ∃ (x : Option Go.Addr), ∃ (x_1 : Nat), ∃ (x_2 : Nat), ∃ (x_3 : Int), v = Go.Value.tuple
 #[Go.Value.slice x x_1 x_2, Go.Value.int Go.IntKind.i64 x_3] ∧ Go.Sx.CallsV Go.Proofs.Try.prog (16 : Nat) #[Go.Value.slice b_A b_n b_c] w' fun (v : Go.Value) (w' : Go.World) => ∃ (x : Option Go.Addr),
 ∃ (x_4 : Nat), ∃ (x_5 : Nat), v = Go.Value.slice x x_4 x_5 ∧ ∃ (I : Int → Go.World → Prop), ∃ (μ : Int → Go.World → Nat), I (0 : Int) w' ∧ ∀ (x_6 : Int) (w : Go.World), I x_6 w → bif Decidable.decide
 (x_6 < (↑x_4 : Int)) then ∃ (ad : Go.Addr), x = Option.some ad ∧ ((0 : Int) ≤ x_6 ∧ x_6 < (↑x_4 : Int)) ∧ ∃ (x_7 : Int), Go.World.cell? w (Go.Addr.add ad (Int.toNat x_6 * (1 : Nat))) = Option.some
 (Go.Value.int Go.IntKind.u8 x_7) ∧ ∃ (ad : Go.Addr), x = Option.some ad ∧ ((0 : Int) ≤ x_6 ∧ x_6 < (↑x_4 : Int)) ∧ Go.Sx.stOK (Go.Addr.add ad (Int.toNat x_6 * (1 : Nat))) (0 : Nat) [Go.Value.int
 Go.IntKind.u8 (Go.IntKind.wrap Go.IntKind.u8 (↑(BitVec.toNat (BitVec.ofInt (8 : Nat) (if Go.IntKind.signed Go.IntKind.u8 = Bool.true then (-1 : Int) else Go.IntKind.max Go.IntKind.u8) ^^^ BitVec.ofInt
 (8 : Nat) x_7)) : Int))] w ∧ ∀ (w' : Go.World), w' = Go.Sx.setAll (Go.Addr.add ad (Int.toNat x_6 * (1 : Nat))) (0 : Nat) [Go.Value.int Go.IntKind.u8 (Go.IntKind.wrap Go.IntKind.u8 (↑(BitVec.toNat
 (BitVec.ofInt (8 : Nat) (if Go.IntKind.signed Go.IntKind.u8 = Bool.true then (-1 : Int) else Go.IntKind.max Go.IntKind.u8) ^^^ BitVec.ofInt (8 : Nat) x_7)) : Int))] w → I (Go.IntKind.wrap
 Go.IntKind.i64 (x_6 + (1 : Int))) w' ∧ μ (Go.IntKind.wrap Go.IntKind.i64 (x_6 + (1 : Int))) w' < μ x_6 w else ∀ (g : Nat) (w' : Go.World), Go.Sx.Fresh w g w' [Go.Value.bool Bool.true] (4 : Nat) →
 Go.Sx.CallsV Go.Proofs.Try.prog (26 : Nat) #[Go.Value.slice x x_4 x_5, Go.Value.slice (Option.some (Go.Addr.mk g (0 : Nat) Option.none)) (1 : Nat) (1 : Nat)] w' fun (v : Go.Value) (w' : Go.World) => ∃
 (x : Option Go.Addr), ∃ (x_7 : Nat), ∃ (x_8 : Nat), ∃ (x_9 : Int), v = Go.Value.tuple #[Go.Value.slice x x_7 x_8, Go.Value.int Go.IntKind.i64 x_9] ∧ bif Decidable.decide (x_3 = (10 : Int)) then bif
 Decidable.decide (x_9 = (10 : Int)) then K (Go.Value.bool (Decidable.decide (Go.IntKind.wrap Go.IntKind.i64 ((↑x_1 : Int) + (↑x_7 : Int)) = (0 : Int)))) w' else K (Go.Value.bool Bool.false) w' else K
 (Go.Value.bool Bool.false) w'
theorem cardindexlaw03_none.eq (b_A : Option Addr) (b_n : Nat) (b_c : Nat) (w : World) (K : Value → World → Prop) : cardindexlaw03_none.W b_A b_n b_c w K = fnW Try.prog Try.f34 (.named (.seq .auto (.seq .auto (.seq .auto (.seq (.seq .auto (.block (.loop [(19, .one (.int .i64))] .auto))) .auto))))) [.slice b_A b_n b_c] w K := by kernel_rfl
theorem cardindexlaw03_none.calls (ok : Okay Try.prog) {b_A : Option Addr} {b_n : Nat} {b_c : Nat} {w : World} {K : Value → World → Prop} (h : cardindexlaw03_none.W b_A b_n b_c w K) : CallsV Try.prog 34 #[.slice b_A b_n b_c] w K :=
  fnW_calls ok Try.func34 (an := (.named (.seq .auto (.seq .auto (.seq .auto (.seq (.seq .auto (.block (.loop [(19, .one (.int .i64))] .auto))) .auto)))))) (args := [.slice b_A b_n b_c]) (by rw [← cardindexlaw03_none.eq]; exact h)
noncomputable def cardindexlaw03_RecordNumbers.W : World → (Value → World → Prop) → Prop := fun (w : Go.World) (K : Go.Value → Go.World → Prop) => ∃ (I : Int → Go.World → Prop), ∃ (μ : Int → Go.World →
 Nat), I (1 : Int) w ∧ ∀ (x : Int) (w : Go.World), I x w → bif Decidable.decide (x ≤ (8 : Int)) then (0 : Int) ≤ Go.IntKind.wrap Go.IntKind.i64 (Go.IntKind.wrap Go.IntKind.i64 ((8 : Int) * x) - (2 :
 Int)) ∧ ∀ (g : Nat) (w' : Go.World), Go.Sx.Fresh w g w' [Go.Value.int Go.IntKind.i64 (Go.IntKind.wrap Go.IntKind.i64 (Go.IntKind.wrap Go.IntKind.i64 (Go.IntKind.wrap Go.IntKind.i64 ((1 : Int) * (2 :
 Int) ^ Min.min (Int.toNat (Go.IntKind.wrap Go.IntKind.i64 (Go.IntKind.wrap Go.IntKind.i64 ((8 : Int) * x) - (2 : Int)))) (64 : Nat)) * (2 : Int)) - (1 : Int))), Go.Value.int Go.IntKind.i64 x,
 Go.Value.int Go.IntKind.i64 (Go.IntKind.wrap Go.IntKind.i64 (Go.IntKind.wrap Go.IntKind.i64 ((0 : Int) - Go.IntKind.wrap Go.IntKind.i64 (Go.IntKind.wrap Go.IntKind.i64 (Go.IntKind.wrap Go.IntKind.i64
 ((1 : Int) * (2 : Int) ^ Min.min (Int.toNat (Go.IntKind.wrap Go.IntKind.i64 (Go.IntKind.wrap Go.IntKind.i64 ((8 : Int) * x) - (2 : Int)))) (64 : Nat)) * (2 : Int)) - (1 : Int))) - (1 : Int))),
 Go.Value.int Go.IntKind.i64 x, Go.Value.int Go.IntKind.i64 (Go.IntKind.wrap Go.IntKind.i64 (Go.IntKind.wrap Go.IntKind.i64 (Go.IntKind.wrap Go.IntKind.i64 (Go.IntKind.wrap Go.IntKind.i64 ((1 : Int) *
 (2 : Int) ^ Min.min (Int.toNat (Go.IntKind.wrap Go.IntKind.i64 (Go.IntKind.wrap Go.IntKind.i64 ((8 : Int) * x) - (2 : Int)))) (64 : Nat)) * (2 : Int)) - (1 : Int)) + (1 : Int))), Go.Value.int
 Go.IntKind.i64 (Go.IntKind.wrap Go.IntKind.i64 (x + (1 : Int))), Go.Value.int Go.IntKind.i64 (Go.IntKind.wrap Go.IntKind.i64 (Go.IntKind.wrap Go.IntKind.i64 ((0 : Int) - Go.IntKind.wrap Go.IntKind.i64
 (Go.IntKind.wrap Go.IntKind.i64 (Go.IntKind.wrap Go.IntKind.i64 ((1 : Int) * (2 : Int) ^ Min.min (Int.toNat (Go.IntKind.wrap Go.IntKind.i64 (Go.IntKind.wrap Go.IntKind.i64 ((8 : Int) * x) - (2 :
 Int)))) (64 : Nat)) * (2 : Int)) - (1 : Int))) - (2 : Int))), Go.Value.int Go.IntKind.i64 (Go.IntKind.wrap Go.IntKind.i64 (x + (1 : Int)))] (54 : Nat) → ∃ (I_1 : Int → Go.World → Prop), ∃ (μ_1 : Int →
 Go.World → Nat), I_1 (0 : Int) w' ∧ ∀ (x_1 : Int) (w_1 : Go.World), I_1 x_1 w_1 → bif Decidable.decide (x_1 < (↑(4 : Nat) : Int)) then ∃ (ad : Go.Addr), Option.some (Go.Addr.mk g (0 : Nat) Option.none)
 = Option.some ad ∧ ((0 : Int) ≤ x_1 ∧ x_1 < (↑(4 : Nat) : Int)) ∧ ∃ (x_2 : Int), Go.World.cell? w_1 (Go.Addr.add (Go.Addr.add ad (Int.toNat x_1 * (2 : Nat))) (0 : Nat)) = Option.some (Go.Value.int
 Go.IntKind.i64 x_2) ∧ ∃ (x_3 : Int), Go.World.cell? w_1 (Go.Addr.add (Go.Addr.add ad (Int.toNat x_1 * (2 : Nat))) ((0 : Nat) + (1 : Nat))) = Option.some (Go.Value.int Go.IntKind.i64 x_3) ∧ ∀ (g : Nat)
 (w' : Go.World), Go.Sx.Fresh w_1 g w' [Go.Value.int Go.IntKind.i64 (0 : Int), Go.Value.int Go.IntKind.i64 (0 : Int)] (54 : Nat) → Go.Sx.stOK (Go.Addr.mk g (0 : Nat) Option.none) (0 : Nat) [Go.Value.int
 Go.IntKind.i64 x_2, Go.Value.int Go.IntKind.i64 x_3] w' ∧ ∀ (w'_1 : Go.World), w'_1 = Go.Sx.setAll (Go.Addr.mk g (0 : Nat) Option.none) (0 : Nat) [Go.Value.int Go.IntKind.i64 x_2, Go.Value.int
 Go.IntKind.i64 x_3] w' → ∃ (J : Go.World → Prop), (∀ (w : Go.World), J w → ∃ (x : Int), Go.World.cell? w (Go.Addr.add (Go.Addr.mk g (0 : Nat) Option.none) (0 : Nat)) = Option.some (Go.Value.int
 Go.IntKind.i64 x) ∧ Go.Sx.CallsV Go.Proofs.Try.prog (30 : Nat) #[Go.Value.int Go.IntKind.i64 x] w fun (v : Go.Value) (w' : Go.World) => ∃ (x : Int), ∃ (x_4 : Int), ∃ (x_5 : ByteArray), v = Go.Value.agg
 #[Go.Value.int Go.IntKind.u8 x, Go.Value.int Go.IntKind.i64 x_4, Go.Value.string x_5] ∧ ∀ (g_1 : Nat) (w'_2 : Go.World), Go.Sx.Fresh w' g_1 w'_2 [Go.Value.int Go.IntKind.u8 x, Go.Value.int
 Go.IntKind.i64 x_4, Go.Value.string x_5] (37 : Nat) → Go.Sx.CallsV Go.Proofs.Try.prog (17 : Nat) #[Go.Value.slice (Option.some (Go.Addr.mk g_1 (0 : Nat) Option.none)) (1 : Nat) (1 : Nat)] w'_2 fun (v :
 Go.Value) (w' : Go.World) => ∃ (x : Option Go.Addr), ∃ (x_6 : Nat), ∃ (x_7 : Nat), ∃ (x_8 : Int), v = Go.Value.tuple #[Go.Value.slice x x_6 x_7, Go.Value.int Go.IntKind.i64 x_8] ∧ bif !Decidable.decide
 (x_8 = (0 : Int)) then K (Go.Value.bool Bool.false) (Go.World.drew w') else ∃ (S : Go.World → Prop), S (Go.World.drew w') ∧ ∃ (x_9 : Int), (∀ (u : Go.World), S u → Go.World.cell? u (Go.Addr.add
 (Go.Addr.mk g (0 : Nat) Option.none) (1 : Nat)) = Option.some (Go.Value.int Go.IntKind.i64 x_9)) ∧ bif !Decidable.decide ((↑x_6 : Int) = Go.IntKind.wrap Go.IntKind.i64 ((2 : Int) + x_9)) then K
 (Go.Value.bool Bool.false) (Go.World.drew w') else ∃ (ad : Go.Addr), x = Option.some ad ∧ ((0 : Int) ≤ (1 : Int) ∧ (1 : Int) < (↑x_6 : Int)) ∧ ∃ (x : Int), (∀ (u : Go.World), S u → Go.World.cell? u
 (Go.Addr.add ad (Int.toNat (1 : Int) * (1 : Nat))) = Option.some (Go.Value.int Go.IntKind.u8 x)) ∧ ∃ (x_10 : Int), (∀ (u : Go.World), S u → Go.World.cell? u (Go.Addr.add (Go.Addr.mk g (0 : Nat)
 Option.none) (1 : Nat)) = Option.some (Go.Value.int Go.IntKind.i64 x_10)) ∧ bif !Decidable.decide (Go.IntKind.wrap Go.IntKind.i64 x = x_10) then K (Go.Value.bool Bool.false) (Go.World.drew w') else I_1
 (Go.IntKind.wrap Go.IntKind.i64 (x_1 + (1 : Int))) (Go.World.drew w') ∧ μ_1 (Go.IntKind.wrap Go.IntKind.i64 (x_1 + (1 : Int))) (Go.World.drew w') < μ_1 x_1 w_1) ∧ bif Decidable.decide (x = (8 : Int))
 then bif Decidable.decide ((1 : Int) < x_1) then I_1 (Go.IntKind.wrap Go.IntKind.i64 (x_1 + (1 : Int))) w'_1 ∧ μ_1 (Go.IntKind.wrap Go.IntKind.i64 (x_1 + (1 : Int))) w'_1 < μ_1 x_1 w_1 else J w'_1 else
 J w'_1 else I (Go.IntKind.wrap Go.IntKind.i64 (x + (1 : Int))) w_1 ∧ μ (Go.IntKind.wrap Go.IntKind.i64 (x + (1 : Int))) w_1 < μ x w else ∃ (x : Option Go.Addr), ∃ (x_1 : Nat), ∃ (x_2 : Nat), ∃ (w' :
 Go.World), Go.Sx.RunsTo Go.Proofs.Try.prog (Go.Instr.makeSlice (22 : Nat) (Go.Value.int Go.IntKind.i64 (201 : Int)) (Go.Value.int Go.IntKind.i64 (201 : Int))) w (Go.Value.slice x x_1 x_2) w' ∧
 Go.Sx.CallsV Go.Proofs.Try.prog (32 : Nat) #[Go.Value.string (ByteArray.mk #[(120 : UInt8)]), Go.Value.int Go.IntKind.i64 (65536 : Int)] w' fun (v : Go.Value) (w' : Go.World) => ∃ (x_3 : ByteArray), v
 = Go.Value.string x_3 ∧ Go.Sx.CallsV Go.Proofs.Try.prog (31 : Nat) #[Go.Value.string x_3] w' fun (v : Go.Value) (w' : Go.World) => ∃ (x_4 : Int), ∃ (x_5 : Int), ∃ (x_6 : ByteArray), v = Go.Value.agg
 #[Go.Value.int Go.IntKind.u8 x_4, Go.Value.int Go.IntKind.i64 x_5, Go.Value.string x_6] ∧ ∀ (g : Nat) (w'_1 : Go.World), Go.Sx.Fresh w' g w'_1 [Go.Value.int Go.IntKind.u8 x_4, Go.Value.int
 Go.IntKind.i64 x_5, Go.Value.string x_6] (37 : Nat) → ∃ (I : Option Go.Addr → Nat → Nat → Int → Go.World → Prop), ∃ (μ : Option Go.Addr → Nat → Nat → Int → Go.World → Nat), I (Option.some (Go.Addr.mk g
 (0 : Nat) Option.none)) (1 : Nat) (1 : Nat) (0 : Int) w'_1 ∧ ∀ (x_7 : Option Go.Addr) (x_8 x_9 : Nat) (x_10 : Int) (w : Go.World), I x_7 x_8 x_9 x_10 w → bif Decidable.decide (x_10 < (15 : Int)) then ∃
 (ad : Go.Addr), x_7 = Option.some ad ∧ ((0 : Int) ≤ (0 : Int) ∧ (0 : Int) < (↑x_8 : Int)) ∧ ∃ (x : Int), Go.World.cell? w (Go.Addr.add (Go.Addr.add ad (Int.toNat (0 : Int) * (3 : Nat))) (0 : Nat)) =
 Option.some (Go.Value.int Go.IntKind.u8 x) ∧ ∃ (x_11 : Int), Go.World.cell? w (Go.Addr.add (Go.Addr.add ad (Int.toNat (0 : Int) * (3 : Nat))) ((0 : Nat) + (1 : Nat))) = Option.some (Go.Value.int
 Go.IntKind.i64 x_11) ∧ ∃ (x_12 : ByteArray), Go.World.cell? w (Go.Addr.add (Go.Addr.add ad (Int.toNat (0 : Int) * (3 : Nat))) ((0 : Nat) + (1 : Nat) + (1 : Nat))) = Option.some (Go.Value.string x_12) ∧
 ∀ (g : Nat) (w' : Go.World), Go.Sx.Fresh w g w' [Go.Value.int Go.IntKind.u8 x, Go.Value.int Go.IntKind.i64 x_11, Go.Value.string x_12] (37 : Nat) → ∃ (x : Option Go.Addr), ∃ (x_13 : Nat), ∃ (x_14 :
 Nat), ∃ (w'_2 : Go.World), Go.Sx.RunsTo Go.Proofs.Try.prog (Go.Builtin.append_ (Array.mk [(22 : Nat), (22 : Nat)]) (22 : Nat) #[Go.Value.slice x_7 x_8 x_9, Go.Value.slice (Option.some (Go.Addr.mk g (0
 : Nat) Option.none)) (1 : Nat) (1 : Nat)]) w' (Go.Value.slice x x_13 x_14) w'_2 ∧ I x x_13 x_14 (Go.IntKind.wrap Go.IntKind.i64 (x_10 + (1 : Int))) w'_2 ∧ μ x x_13 x_14 (Go.IntKind.wrap Go.IntKind.i64
 (x_10 + (1 : Int))) w'_2 < μ x_7 x_8 x_9 x_10 w else ∃ (x_11 : Option Go.Addr), ∃ (x_12 : Nat), ∃ (x_13 : Nat), ∃ (w' : Go.World), Go.Sx.RunsTo Go.Proofs.Try.prog (Go.Instr.makeSlice (23 : Nat)
 (Go.Value.int Go.IntKind.i64 (201 : Int)) (Go.Value.int Go.IntKind.i64 (201 : Int))) w (Go.Value.slice x_11 x_12 x_13) w' ∧ Go.Sx.CallsV Go.Proofs.Try.prog (17 : Nat) #[Go.Value.slice x x_1 x_2] w' fun
 (v : Go.Value) (w' : Go.World) => ∃ (x_14 : Option Go.Addr), ∃ (x_15 : Nat), ∃ (x_16 : Nat), ∃ (x_17 : Int), v = Go.Value.tuple #[Go.Value.slice x_14 x_15 x_16, Go.Value.int Go.IntKind.i64 x_17] ∧ ((0
 : Int) ≤ (200 : Int) ∧ (200 : Int) ≤ (↑x_2 : Int)) ∧ Go.Sx.CallsV Go.Proofs.Try.prog (17 : Nat) #[Go.Value.slice (Go.Sx.cutAt x x_2 (0 : Nat) (3 : Nat)) (Int.toNat (200 : Int) - (0 : Nat)) (x_2 - (0 :
 Nat))] w' fun (v : Go.Value) (w' : Go.World) => ∃ (x_18 : Option Go.Addr), ∃ (x_19 : Nat), ∃ (x_20 : Nat), ∃ (x_21 : Int), v = Go.Value.tuple #[Go.Value.slice x_18 x_19 x_20, Go.Value.int
 Go.IntKind.i64 x_21] ∧ ∀ (g : Nat) (w'_2 : Go.World), Go.Sx.Fresh w' g w'_2 [Go.Value.int Go.IntKind.u8 (0 : Int), Go.Value.int Go.IntKind.i64 (1 : Int), Go.Value.string (ByteArray.mk #[])] (37 : Nat)
 → Go.Sx.CallsV Go.Proofs.Try.prog (17 : Nat) #[Go.Value.slice (Option.some (Go.Addr.mk g (0 : Nat) Option.none)) (1 : Nat) (1 : Nat)] w'_2 fun (v : Go.Value) (w' : Go.World) => ∃ (x_22 : Option
 Go.Addr), ∃ (x_23 : Nat), ∃ (x_24 : Nat), ∃ (x_25 : Int), v = Go.Value.tuple #[Go.Value.slice x_22 x_23 x_24, Go.Value.int Go.IntKind.i64 x_25] ∧ Go.Sx.CallsV Go.Proofs.Try.prog (17 : Nat)
 #[Go.Value.slice x_7 x_8 x_9] w' fun (v : Go.Value) (w' : Go.World) => ∃ (x_26 : Option Go.Addr), ∃ (x_27 : Nat), ∃ (x_28 : Nat), ∃ (x_29 : Int), v = Go.Value.tuple #[Go.Value.slice x_26 x_27 x_28,
 Go.Value.int Go.IntKind.i64 x_29] ∧ ((0 : Int) ≤ (15 : Int) ∧ (15 : Int) ≤ (↑x_9 : Int)) ∧ Go.Sx.CallsV Go.Proofs.Try.prog (17 : Nat) #[Go.Value.slice (Go.Sx.cutAt x_7 x_9 (0 : Nat) (3 : Nat))
 (Int.toNat (15 : Int) - (0 : Nat)) (x_9 - (0 : Nat))] w' fun (v : Go.Value) (w' : Go.World) => ∃ (x_30 : Option Go.Addr), ∃ (x_31 : Nat), ∃ (x_32 : Nat), ∃ (x_33 : Int), v = Go.Value.tuple
 #[Go.Value.slice x_30 x_31 x_32, Go.Value.int Go.IntKind.i64 x_33] ∧ Go.Sx.CallsV Go.Proofs.Try.prog (14 : Nat) #[Go.Value.slice x x_1 x_2, Go.Value.slice x_11 x_12 x_13] w' fun (v : Go.Value) (w' :
 Go.World) => ∃ (x_34 : Option Go.Addr), ∃ (x_35 : Nat), ∃ (x_36 : Nat), ∃ (x_37 : Int), v = Go.Value.tuple #[Go.Value.slice x_34 x_35 x_36, Go.Value.int Go.IntKind.i64 x_37] ∧ ((0 : Int) ≤ (200 : Int)
 ∧ (200 : Int) ≤ (↑x_2 : Int)) ∧ ((0 : Int) ≤ (200 : Int) ∧ (200 : Int) ≤ (↑x_13 : Int)) ∧ Go.Sx.CallsV Go.Proofs.Try.prog (14 : Nat) #[Go.Value.slice (Go.Sx.cutAt x x_2 (0 : Nat) (3 : Nat)) (Int.toNat
 (200 : Int) - (0 : Nat)) (x_2 - (0 : Nat)), Go.Value.slice (Go.Sx.cutAt x_11 x_13 (0 : Nat) (1 : Nat)) (Int.toNat (200 : Int) - (0 : Nat)) (x_13 - (0 : Nat))] (Go.World.drew w') fun (v : Go.Value) (w'
 : Go.World) => ∃ (x_38 : Option Go.Addr), ∃ (x_39 : Nat), ∃ (x_40 : Nat), ∃ (x_41 : Int), v = Go.Value.tuple #[Go.Value.slice x_38 x_39 x_40, Go.Value.int Go.IntKind.i64 x_41] ∧ ((0 : Int) ≤ (2 : Int)
 ∧ (2 : Int) ≤ (↑x_2 : Int)) ∧ ((0 : Int) ≤ (1 : Int) ∧ (1 : Int) ≤ (↑x_13 : Int)) ∧ Go.Sx.CallsV Go.Proofs.Try.prog (14 : Nat) #[Go.Value.slice (Go.Sx.cutAt x x_2 (0 : Nat) (3 : Nat)) (Int.toNat (2 :
 Int) - (0 : Nat)) (x_2 - (0 : Nat)), Go.Value.slice (Go.Sx.cutAt x_11 x_13 (0 : Nat) (1 : Nat)) (Int.toNat (1 : Int) - (0 : Nat)) (x_13 - (0 : Nat))] (Go.World.drew w') fun (v : Go.Value) (w' :
 Go.World) => ∃ (x : Option Go.Addr), ∃ (x_42 : Nat), ∃ (x_43 : Nat), ∃ (x_44 : Int), v = Go.Value.tuple #[Go.Value.slice x x_42 x_43, Go.Value.int Go.IntKind.i64 x_44] ∧ ((0 : Int) ≤ (16 : Int) ∧ (16 :
 Int) ≤ (↑x_13 : Int)) ∧ Go.Sx.CallsV Go.Proofs.Try.prog (14 : Nat) #[Go.Value.slice x_7 x_8 x_9, Go.Value.slice (Go.Sx.cutAt x_11 x_13 (0 : Nat) (1 : Nat)) (Int.toNat (16 : Int) - (0 : Nat)) (x_13 - (0
 : Nat))] w' fun (v : Go.Value) (w' : Go.World) => ∃ (x : Option Go.Addr), ∃ (x_45 : Nat), ∃ (x_46 : Nat), ∃ (x_47 : Int), v = Go.Value.tuple #[Go.Value.slice x x_45 x_46, Go.Value.int Go.IntKind.i64
 x_47] ∧ ∃ (x : Option Go.Addr), ∃ (x_48 : Nat), ∃ (x_49 : Nat), ∃ (w'_3 : Go.World), Go.Sx.RunsTo Go.Proofs.Try.prog (Go.Instr.makeSlice (27 : Nat) (Go.Value.int Go.IntKind.i64 (201 : Int))
 (Go.Value.int Go.IntKind.i64 (201 : Int))) w' (Go.Value.slice x x_48 x_49) w'_3 ∧ Go.Sx.CallsV Go.Proofs.Try.prog (26 : Nat) #[Go.Value.slice x x_48 x_49, Go.Value.slice x_11 x_12 x_13] w'_3 fun (v :
 Go.Value) (w' : Go.World) => ∃ (x : Option Go.Addr), ∃ (x_50 : Nat), ∃ (x_51 : Nat), ∃ (x_52 : Int), v = Go.Value.tuple #[Go.Value.slice x x_50 x_51, Go.Value.int Go.IntKind.i64 x_52] ∧ ∀ (g : Nat)
 (w'_4 : Go.World), Go.Sx.Fresh w' g w'_4 [Go.Value.int Go.IntKind.u8 (4 : Int), Go.Value.int Go.IntKind.i64 (0 : Int), Go.Value.string (ByteArray.mk #[])] (37 : Nat) → ((0 : Int) ≤ (1 : Int) ∧ (1 :
 Int) ≤ (↑x_13 : Int)) ∧ Go.Sx.CallsV Go.Proofs.Try.prog (14 : Nat) #[Go.Value.slice (Option.some (Go.Addr.mk g (0 : Nat) Option.none)) (1 : Nat) (1 : Nat), Go.Value.slice (Go.Sx.cutAt x_11 x_13 (0 :
 Nat) (1 : Nat)) (Int.toNat (1 : Int) - (0 : Nat)) (x_13 - (0 : Nat))] w'_4 fun (v : Go.Value) (w' : Go.World) => ∃ (x : Option Go.Addr), ∃ (x_53 : Nat), ∃ (x_54 : Nat), ∃ (x_55 : Int), v =
 Go.Value.tuple #[Go.Value.slice x x_53 x_54, Go.Value.int Go.IntKind.i64 x_55] ∧ Go.Sx.CallsV Go.Proofs.Try.prog (26 : Nat) #[Go.Value.slice Option.none (0 : Nat) (0 : Nat), Go.Value.slice Option.none
 (0 : Nat) (0 : Nat)] w' fun (v : Go.Value) (w' : Go.World) => ∃ (x : Option Go.Addr), ∃ (x_56 : Nat), ∃ (x_57 : Nat), ∃ (x_58 : Int), v = Go.Value.tuple #[Go.Value.slice x x_56 x_57, Go.Value.int
 Go.IntKind.i64 x_58] ∧ bif Decidable.decide (x_17 = (3 : Int)) then bif Decidable.decide (x_21 = (0 : Int)) then bif Decidable.decide (x_25 = (2 : Int)) then bif Decidable.decide (x_29 = (3 : Int))
 then bif Decidable.decide (x_33 = (0 : Int)) then bif Decidable.decide (x_37 = (3 : Int)) then bif Decidable.decide (x_41 = (0 : Int)) then bif Decidable.decide (x_44 = (2 : Int)) then bif
 Decidable.decide (x_47 = (3 : Int)) then bif Decidable.decide (x_52 = (10 : Int)) then bif Decidable.decide (x_55 = (2 : Int)) then bif Decidable.decide ((↑x_56 : Int) = (0 : Int)) then bif
 Decidable.decide (x_58 = (0 : Int)) then Go.Sx.CallsV Go.Proofs.Try.prog (33 : Nat) #[Go.Value.slice Option.none (0 : Nat) (0 : Nat)] w' fun (v : Go.Value) (w' : Go.World) => ∃ (x : Bool), v =
 Go.Value.bool x ∧ bif x then ∀ (g : Nat) (w'_5 : Go.World), Go.Sx.Fresh w' g w'_5 [Go.Value.int Go.IntKind.u8 (1 : Int)] (5 : Nat) → Go.Sx.CallsV Go.Proofs.Try.prog (33 : Nat) #[Go.Value.slice
 (Option.some (Go.Addr.mk g (0 : Nat) Option.none)) (1 : Nat) (1 : Nat)] w'_5 fun (v : Go.Value) (w' : Go.World) => ∃ (x : Bool), v = Go.Value.bool x ∧ bif x then ∀ (g : Nat) (w'_6 : Go.World),
 Go.Sx.Fresh w' g w'_6 [Go.Value.int Go.IntKind.u8 (0 : Int), Go.Value.int Go.IntKind.u8 (0 : Int)] (5 : Nat) → Go.Sx.CallsV Go.Proofs.Try.prog (33 : Nat) #[Go.Value.slice (Option.some (Go.Addr.mk g (0
 : Nat) Option.none)) (2 : Nat) (2 : Nat)] w'_6 fun (v : Go.Value) (w' : Go.World) => ∃ (x : Bool), v = Go.Value.bool x ∧ bif x then ∀ (g : Nat) (w'_7 : Go.World), Go.Sx.Fresh w' g w'_7 [Go.Value.int
 Go.IntKind.u8 (1 : Int), Go.Value.int Go.IntKind.u8 (1 : Int)] (5 : Nat) → Go.Sx.CallsV Go.Proofs.Try.prog (33 : Nat) #[Go.Value.slice (Option.some (Go.Addr.mk g (0 : Nat) Option.none)) (2 : Nat) (2 :
 Nat)] w'_7 fun (v : Go.Value) (w' : Go.World) => ∃ (x : Bool), v = Go.Value.bool x ∧ bif x then ∀ (g : Nat) (w'_8 : Go.World), Go.Sx.Fresh w' g w'_8 [Go.Value.int Go.IntKind.u8 (1 : Int), Go.Value.int
 Go.IntKind.u8 (9 : Int), Go.Value.int Go.IntKind.u8 (0 : Int)] (5 : Nat) → Go.Sx.CallsV Go.Proofs.Try.prog (33 : Nat) #[Go.Value.slice (Option.some (Go.Addr.mk g (0 : Nat) Option.none)) (3 : Nat) (3 :
 Nat)] w'_8 fun (v : Go.Value) (w' : Go.World) => ∃ (x : Bool), v = Go.Value.bool x ∧ bif x then ∀ (g : Nat) (w'_9 : Go.World), Go.Sx.Fresh w' g w'_9 [Go.Value.int Go.IntKind.u8 (1 : Int), Go.Value.int
 Go.IntKind.u8 (2 : Int), Go.Value.int Go.IntKind.u8 (0 : Int), Go.Value.int Go.IntKind.u8 (127 : Int)] (5 : Nat) → Go.Sx.CallsV Go.Proofs.Try.prog (33 : Nat) #[Go.Value.slice (Option.some (Go.Addr.mk g
 (0 : Nat) Option.none)) (4 : Nat) (4 : Nat)] w'_9 fun (v : Go.Value) (w' : Go.World) => ∃ (x : Bool), v = Go.Value.bool x ∧ bif x then ∀ (g : Nat) (w'_10 : Go.World), Go.Sx.Fresh w' g w'_10
 [Go.Value.int Go.IntKind.u8 (1 : Int), Go.Value.int Go.IntKind.u8 (2 : Int), Go.Value.int Go.IntKind.u8 (255 : Int), Go.Value.int Go.IntKind.u8 (128 : Int)] (5 : Nat) → Go.Sx.CallsV Go.Proofs.Try.prog
 (33 : Nat) #[Go.Value.slice (Option.some (Go.Addr.mk g (0 : Nat) Option.none)) (4 : Nat) (4 : Nat)] w'_10 fun (v : Go.Value) (w' : Go.World) => ∃ (x : Bool), v = Go.Value.bool x ∧ bif x then ∀ (g :
 Nat) (w'_11 : Go.World), Go.Sx.Fresh w' g w'_11 [Go.Value.int Go.IntKind.u8 (1 : Int), Go.Value.int Go.IntKind.u8 (12 : Int)] (5 : Nat) → Go.Sx.CallsV Go.Proofs.Try.prog (33 : Nat) #[Go.Value.slice
 (Option.some (Go.Addr.mk g (0 : Nat) Option.none)) (2 : Nat) (2 : Nat)] w'_11 fun (v : Go.Value) (w' : Go.World) => ∃ (x : Bool), v = Go.Value.bool x ∧ bif x then ∀ (g : Nat) (w'_12 : Go.World),
 Go.Sx.Fresh w' g w'_12 [Go.Value.int Go.IntKind.u8 (1 : Int), Go.Value.int Go.IntKind.u8 (11 : Int), Go.Value.int Go.IntKind.u8 (7 : Int)] (5 : Nat) → Go.Sx.CallsV Go.Proofs.Try.prog (33 : Nat)
 #[Go.Value.slice (Option.some (Go.Addr.mk g (0 : Nat) Option.none)) (3 : Nat) (3 : Nat)] w'_12 fun (v : Go.Value) (w' : Go.World) => ∃ (x : Bool), v = Go.Value.bool x ∧ bif x then ∀ (g : Nat) (w'_13 :
 Go.World), Go.Sx.Fresh w' g w'_13 [Go.Value.int Go.IntKind.u8 (129 : Int), Go.Value.int Go.IntKind.u8 (0 : Int), Go.Value.int Go.IntKind.u8 (0 : Int)] (5 : Nat) → Go.Sx.CallsV Go.Proofs.Try.prog (33 :
 Nat) #[Go.Value.slice (Option.some (Go.Addr.mk g (0 : Nat) Option.none)) (3 : Nat) (3 : Nat)] w'_13 fun (v : Go.Value) (w' : Go.World) => ∃ (x : Bool), v = Go.Value.bool x ∧ bif x then ∀ (g : Nat)
 (w'_14 : Go.World), Go.Sx.Fresh w' g w'_14 [Go.Value.int Go.IntKind.u8 (201 : Int), Go.Value.int Go.IntKind.u8 (1 : Int)] (5 : Nat) → Go.Sx.CallsV Go.Proofs.Try.prog (33 : Nat) #[Go.Value.slice
 (Option.some (Go.Addr.mk g (0 : Nat) Option.none)) (2 : Nat) (2 : Nat)] w'_14 fun (v : Go.Value) (w' : Go.World) => ∃ (x : Bool), v = Go.Value.bool x ∧ bif x then ∀ (g : Nat) (w'_15 : Go.World),
 Go.Sx.Fresh w' g w'_15 [Go.Value.int Go.IntKind.u8 (1 : Int), Go.Value.int Go.IntKind.u8 (128 : Int), Go.Value.int Go.IntKind.u8 (0 : Int)] (5 : Nat) → Go.Sx.CallsV Go.Proofs.Try.prog (33 : Nat)
 #[Go.Value.slice (Option.some (Go.Addr.mk g (0 : Nat) Option.none)) (3 : Nat) (3 : Nat)] w'_15 fun (v : Go.Value) (w' : Go.World) => ∃ (x : Bool), v = Go.Value.bool x ∧ bif x then Go.Sx.CallsV
 Go.Proofs.Try.prog (34 : Nat) #[Go.Value.slice Option.none (0 : Nat) (0 : Nat)] w' fun (v : Go.Value) (w' : Go.World) => ∃ (x : Bool), v = Go.Value.bool x ∧ bif x then ∀ (g : Nat) (w'_16 : Go.World),
 Go.Sx.Fresh w' g w'_16 [Go.Value.int Go.IntKind.u8 (0 : Int)] (5 : Nat) → Go.Sx.CallsV Go.Proofs.Try.prog (34 : Nat) #[Go.Value.slice (Option.some (Go.Addr.mk g (0 : Nat) Option.none)) (1 : Nat) (1 :
 Nat)] w'_16 fun (v : Go.Value) (w' : Go.World) => ∃ (x : Bool), v = Go.Value.bool x ∧ bif x then ∀ (g : Nat) (w'_17 : Go.World), Go.Sx.Fresh w' g w'_17 [Go.Value.int Go.IntKind.u8 (5 : Int)] (5 : Nat)
 → Go.Sx.CallsV Go.Proofs.Try.prog (34 : Nat) #[Go.Value.slice (Option.some (Go.Addr.mk g (0 : Nat) Option.none)) (1 : Nat) (1 : Nat)] w'_17 fun (v : Go.Value) (w' : Go.World) => ∃ (x : Bool), v =
 Go.Value.bool x ∧ bif x then ∀ (g : Nat) (w'_18 : Go.World), Go.Sx.Fresh w' g w'_18 [Go.Value.int Go.IntKind.u8 (1 : Int), Go.Value.int Go.IntKind.u8 (1 : Int)] (5 : Nat) → Go.Sx.CallsV
 Go.Proofs.Try.prog (34 : Nat) #[Go.Value.slice (Option.some (Go.Addr.mk g (0 : Nat) Option.none)) (2 : Nat) (2 : Nat)] w'_18 fun (v : Go.Value) (w' : Go.World) => ∃ (x : Bool), v = Go.Value.bool x ∧
 bif x then ∀ (g : Nat) (w'_19 : Go.World), Go.Sx.Fresh w' g w'_19 [Go.Value.int Go.IntKind.u8 (2 : Int), Go.Value.int Go.IntKind.u8 (1 : Int)] (5 : Nat) → Go.Sx.CallsV Go.Proofs.Try.prog (34 : Nat)
 #[Go.Value.slice (Option.some (Go.Addr.mk g (0 : Nat) Option.none)) (2 : Nat) (2 : Nat)] w'_19 fun (v : Go.Value) (w' : Go.World) => ∃ (x : Bool), v = Go.Value.bool x ∧ bif x then ∀ (g : Nat) (w'_20 :
 Go.World), Go.Sx.Fresh w' g w'_20 [Go.Value.int Go.IntKind.u8 (3 : Int)] (5 : Nat) → Go.Sx.CallsV Go.Proofs.Try.prog (34 : Nat) #[Go.Value.slice (Option.some (Go.Addr.mk g (0 : Nat) Option.none)) (1 :
 Nat) (1 : Nat)] w'_20 fun (v : Go.Value) (w' : Go.World) => ∃ (x : Bool), v = Go.Value.bool x ∧ bif x then ∀ (g : Nat) (w'_21 : Go.World), Go.Sx.Fresh w' g w'_21 [Go.Value.int Go.IntKind.u8 (3 : Int),
 Go.Value.int Go.IntKind.u8 (0 : Int)] (5 : Nat) → Go.Sx.CallsV Go.Proofs.Try.prog (34 : Nat) #[Go.Value.slice (Option.some (Go.Addr.mk g (0 : Nat) Option.none)) (2 : Nat) (2 : Nat)] w'_21 fun (v :
 Go.Value) (w' : Go.World) => ∃ (x : Bool), v = Go.Value.bool x ∧ bif x then ∀ (g : Nat) (w'_22 : Go.World), Go.Sx.Fresh w' g w'_22 [Go.Value.int Go.IntKind.u8 (3 : Int), Go.Value.int Go.IntKind.u8 (0 :
 Int), Go.Value.int Go.IntKind.u8 (1 : Int), Go.Value.int Go.IntKind.u8 (0 : Int), Go.Value.int Go.IntKind.u8 (0 : Int)] (5 : Nat) → Go.Sx.CallsV Go.Proofs.Try.prog (34 : Nat) #[Go.Value.slice
 (Option.some (Go.Addr.mk g (0 : Nat) Option.none)) (5 : Nat) (5 : Nat)] w'_22 fun (v : Go.Value) (w' : Go.World) => ∃ (x : Bool), v = Go.Value.bool x ∧ bif x then ∀ (g : Nat) (w'_23 : Go.World),
 Go.Sx.Fresh w' g w'_23 [Go.Value.int Go.IntKind.u8 (3 : Int), Go.Value.int Go.IntKind.u8 (0 : Int), Go.Value.int Go.IntKind.u8 (0 : Int), Go.Value.int Go.IntKind.u8 (0 : Int)] (5 : Nat) → Go.Sx.CallsV
 Go.Proofs.Try.prog (34 : Nat) #[Go.Value.slice (Option.some (Go.Addr.mk g (0 : Nat) Option.none)) (4 : Nat) (4 : Nat)] w'_23 fun (v : Go.Value) (w' : Go.World) => ∃ (x : Bool), v = Go.Value.bool x ∧
 bif x then ∀ (g : Nat) (w'_24 : Go.World), Go.Sx.Fresh w' g w'_24 [Go.Value.int Go.IntKind.u8 (4 : Int), Go.Value.int Go.IntKind.u8 (7 : Int), Go.Value.int Go.IntKind.u8 (0 : Int)] (5 : Nat) →
 Go.Sx.CallsV Go.Proofs.Try.prog (34 : Nat) #[Go.Value.slice (Option.some (Go.Addr.mk g (0 : Nat) Option.none)) (3 : Nat) (3 : Nat)] w'_24 fun (v : Go.Value) (w' : Go.World) => ∃ (x : Bool), v =
 Go.Value.bool x ∧ bif x then ∀ (g : Nat) (w'_25 : Go.World), Go.Sx.Fresh w' g w'_25 [Go.Value.int Go.IntKind.u8 (4 : Int), Go.Value.int Go.IntKind.u8 (0 : Int), Go.Value.int Go.IntKind.u8 (255 : Int)]
 (5 : Nat) → Go.Sx.CallsV Go.Proofs.Try.prog (34 : Nat) #[Go.Value.slice (Option.some (Go.Addr.mk g (0 : Nat) Option.none)) (3 : Nat) (3 : Nat)] w'_25 fun (v : Go.Value) (w' : Go.World) => ∃ (x : Bool),
 v = Go.Value.bool x ∧ bif x then Go.Sx.CallsV Go.Proofs.Try.prog (12 : Nat) #[] w' fun (v : Go.Value) (w' : Go.World) => ∃ (x : Bool), v = Go.Value.bool x ∧ K (Go.Value.bool x) w' else K (Go.Value.bool
 Bool.false) w' else K (Go.Value.bool Bool.false) w' else K (Go.Value.bool Bool.false) w' else K (Go.Value.bool Bool.false) w' else K (Go.Value.bool Bool.false) w' else K (Go.Value.bool Bool.false) w'
 else K (Go.Value.bool Bool.false) w' else K (Go.Value.bool Bool.false) w' else K (Go.Value.bool Bool.false) w' else K (Go.Value.bool Bool.false) w' else K (Go.Value.bool Bool.false) w' else K
 (Go.Value.bool Bool.false) w' else K (Go.Value.bool Bool.false) w' else K (Go.Value.bool Bool.false) w' else K (Go.Value.bool Bool.false) w' else K (Go.Value.bool Bool.false) w' else K (Go.Value.bool
 Bool.false) w' else K (Go.Value.bool Bool.false) w' else K (Go.Value.bool Bool.false) w' else K (Go.Value.bool Bool.false) w' else K (Go.Value.bool Bool.false) w' else K (Go.Value.bool Bool.false) w'
 else K (Go.Value.bool Bool.false) w' else K (Go.Value.bool Bool.false) w' else K (Go.Value.bool Bool.false) w' else K (Go.Value.bool Bool.false) w' else K (Go.Value.bool Bool.false) w' else K
 (Go.Value.bool Bool.false) w' else K (Go.Value.bool Bool.false) w' else K (Go.Value.bool Bool.false) w' else K (Go.Value.bool Bool.false) w' else K (Go.Value.bool Bool.false) w' else K (Go.Value.bool
 Bool.false) w' else K (Go.Value.bool Bool.false) w' else K (Go.Value.bool Bool.false) w' else K (Go.Value.bool Bool.false) w'
theorem cardindexlaw03_RecordNumbers.eq  (w : World) (K : Value → World → Prop) : cardindexlaw03_RecordNumbers.W  w K = fnW Try.prog Try.f10 (.named (.seq .auto (.seq (.seq .auto (.block (.loop [(1, .one (.int .i64))] (.seq .auto (.seq (.block (.seq .auto (.seq .auto (.block (.loop [(67, .one (.int .i64))] (.seq .auto (.seq .auto (.seq (.block (.seq .auto (.join [] .auto .auto))) .auto)))))))) .auto))))) (.seq .auto (.seq .auto (.seq (.seq .auto (.block (.loop [(8, .one .slc), (9, .one (.int .i64))] .auto))) .auto)))))) [] w K := by kernel_rfl
theorem cardindexlaw03_RecordNumbers.calls (ok : Okay Try.prog)  {w : World} {K : Value → World → Prop} (h : cardindexlaw03_RecordNumbers.W  w K) : CallsV Try.prog 10 #[] w K :=
  fnW_calls ok Try.func10 (an := (.named (.seq .auto (.seq (.seq .auto (.block (.loop [(1, .one (.int .i64))] (.seq .auto (.seq (.block (.seq .auto (.seq .auto (.block (.loop [(67, .one (.int .i64))] (.seq .auto (.seq .auto (.seq (.block (.seq .auto (.join [] .auto .auto))) .auto)))))))) .auto))))) (.seq .auto (.seq .auto (.seq (.seq .auto (.block (.loop [(8, .one .slc), (9, .one (.int .i64))] .auto))) .auto))))))) (args := []) (by rw [← cardindexlaw03_RecordNumbers.eq]; exact h)
end Go.Proofs.Ytpaockbhbdeekaa
