/- The preconditions of Go functions, printed by a program of this workplace (nests.py); each is proved to be the engine's own. -/
import Derived.Test.YtbpcfkahnhlahaaProg
import Derived.Test.YtbpcfkahnhlahaaSxWp
set_option linter.unusedVariables false
set_option maxRecDepth 100000
namespace Go.Proofs.Ytbpcfkahnhlahaa
open Go Go.Sx
noncomputable def cardindexlaw01_BytesJoin.W : Option Addr → Nat → Nat → Option Addr → Nat → Nat → World → (Value → World → Prop) → Prop := fun (a_A : Option Go.Addr) (a_n a_c : Nat) (b_A : Option
 Go.Addr) (b_n b_c : Nat) (w : Go.World) (K : Go.Value → Go.World → Prop) => bif Decidable.decide ((20 : Int) < (↑a_n : Int)) then Go.Sx.CallsV Go.Proofs.Try.prog (14 : Nat) #[] w fun (v : Go.Value) (w'
 : Go.World) => ∃ (x : Bool), v = Go.Value.bool x ∧ K (Go.Value.bool x) w' else bif Decidable.decide ((20 : Int) < (↑b_n : Int)) then Go.Sx.CallsV Go.Proofs.Try.prog (14 : Nat) #[] w fun (v : Go.Value)
 (w' : Go.World) => ∃ (x : Bool), v = Go.Value.bool x ∧ K (Go.Value.bool x) w' else ∃ (I : Int → Go.World → Prop), ∃ (μ : Int → Go.World → Nat), I (0 : Int) w ∧ ∀ (x : Int) (w : Go.World), I x w → bif
 Decidable.decide (x < (2 : Int)) then ((0 : Int) ≤ x ∧ x < (↑(2 : Nat) : Int)) ∧ bif Decidable.decide (x = (↑(0 : Nat) : Int)) then ∃ (I_1 : Int → Go.World → Prop), ∃ (μ_1 : Int → Go.World → Nat), I_1
 (0 : Int) w ∧ ∀ (x_1 : Int) (w_1 : Go.World), I_1 x_1 w_1 → bif Decidable.decide (x_1 < (↑a_n : Int)) then ∃ (ad : Go.Addr), a_A = Option.some ad ∧ ((0 : Int) ≤ x_1 ∧ x_1 < (↑a_n : Int)) ∧ ∃ (x :
 Option Go.Addr), ∃ (x_2 : Nat), ∃ (x_3 : Nat), Go.World.cell? w_1 (Go.Addr.add ad (Int.toNat x_1 * (1 : Nat))) = Option.some (Go.Value.slice x x_2 x_3) ∧ ∃ (S : Go.World → Prop), S (Go.World.drew w_1)
 ∧ bif Decidable.decide ((100 : Int) < (↑x_2 : Int)) then bif Decidable.decide ((100 : Int) < (↑x_2 : Int)) then Go.Sx.CallsV Go.Proofs.Try.prog (14 : Nat) #[] (Go.World.drew w_1) fun (v : Go.Value) (w'
 : Go.World) => ∃ (x : Bool), v = Go.Value.bool x ∧ K (Go.Value.bool x) w' else K (Go.Value.bool Bool.false) (Go.World.drew w_1) else ∃ (S' : Go.World → Prop), (∀ (u : Go.World), S' u → S u) ∧ S'
 (Go.World.alloc (Go.World.drew w_1) (Go.Obj.cells #[Go.Value.slice x x_2 x_3] (30 : Nat))) ∧ Go.Sx.CallsV Go.Proofs.Try.prog (22 : Nat) #[Go.Value.slice Option.none (0 : Nat) (0 : Nat), Go.Value.slice
 (Option.some (Go.Addr.mk (Array.size (Go.World.heap (Go.World.drew w_1))) (0 : Nat) Option.none)) (1 : Nat) (1 : Nat)] (Go.World.alloc (Go.World.drew w_1) (Go.Obj.cells #[Go.Value.slice x x_2 x_3] (30
 : Nat))) fun (v : Go.Value) (w' : Go.World) => ∃ (x_4 : Option Go.Addr), ∃ (x_5 : Nat), ∃ (x_6 : Nat), v = Go.Value.slice x_4 x_5 x_6 ∧ ∃ (S'_1 : Go.World → Prop), (∀ (u : Go.World), S'_1 u → S' u) ∧
 S'_1 w' ∧ ∃ (r : ByteArray), (∀ (u : Go.World), S'_1 u → Go.Sx.RunsTo Go.Proofs.Try.prog (Go.convert (30 : Nat) (9 : Nat) (Go.Value.slice x_4 x_5 x_6)) u (Go.Value.string r) u) ∧ Go.Sx.CallsV
 Go.Proofs.Try.prog (21 : Nat) #[Go.Value.slice Option.none (0 : Nat) (0 : Nat), Go.Value.slice x x_2 x_3] w' fun (v : Go.Value) (w' : Go.World) => ∃ (x : Option Go.Addr), ∃ (x_7 : Nat), ∃ (x_8 : Nat),
 v = Go.Value.slice x x_7 x_8 ∧ ∃ (S' : Go.World → Prop), (∀ (u : Go.World), S' u → S'_1 u) ∧ S' w' ∧ ∃ (r_1 : ByteArray), (∀ (u : Go.World), S' u → Go.Sx.RunsTo Go.Proofs.Try.prog (Go.convert (30 :
 Nat) (9 : Nat) (Go.Value.slice x x_7 x_8)) u (Go.Value.string r_1) u) ∧ ByteArray.size (ByteArray.mk #[(1 : UInt8)]) + ByteArray.size r_1 ≤ (9223372036854775807 : Nat) ∧ bif !ByteArray.toList r ==
 ByteArray.toList (ByteArray.mk #[(1 : UInt8)] ++ r_1) then bif Decidable.decide ((100 : Int) < (↑x_2 : Int)) then Go.Sx.CallsV Go.Proofs.Try.prog (14 : Nat) #[] w' fun (v : Go.Value) (w' : Go.World) =>
 ∃ (x : Bool), v = Go.Value.bool x ∧ K (Go.Value.bool x) w' else K (Go.Value.bool Bool.false) w' else I_1 (Go.IntKind.wrap Go.IntKind.i64 (x_1 + (1 : Int))) w' ∧ μ_1 (Go.IntKind.wrap Go.IntKind.i64 (x_1
 + (1 : Int))) w' < μ_1 x_1 w_1 else I (Go.IntKind.wrap Go.IntKind.i64 (x + (1 : Int))) w_1 ∧ μ (Go.IntKind.wrap Go.IntKind.i64 (x + (1 : Int))) w_1 < μ x w else bif Decidable.decide (x = (↑((0 : Nat) +
 (1 : Nat)) : Int)) then ∃ (I_1 : Int → Go.World → Prop), ∃ (μ_1 : Int → Go.World → Nat), I_1 (0 : Int) w ∧ ∀ (x_1 : Int) (w_1 : Go.World), I_1 x_1 w_1 → bif Decidable.decide (x_1 < (↑b_n : Int)) then ∃
 (ad : Go.Addr), b_A = Option.some ad ∧ ((0 : Int) ≤ x_1 ∧ x_1 < (↑b_n : Int)) ∧ ∃ (x : Option Go.Addr), ∃ (x_2 : Nat), ∃ (x_3 : Nat), Go.World.cell? w_1 (Go.Addr.add ad (Int.toNat x_1 * (1 : Nat))) =
 Option.some (Go.Value.slice x x_2 x_3) ∧ ∃ (S : Go.World → Prop), S (Go.World.drew w_1) ∧ bif Decidable.decide ((100 : Int) < (↑x_2 : Int)) then bif Decidable.decide ((100 : Int) < (↑x_2 : Int)) then
 Go.Sx.CallsV Go.Proofs.Try.prog (14 : Nat) #[] (Go.World.drew w_1) fun (v : Go.Value) (w' : Go.World) => ∃ (x : Bool), v = Go.Value.bool x ∧ K (Go.Value.bool x) w' else K (Go.Value.bool Bool.false)
 (Go.World.drew w_1) else ∃ (S' : Go.World → Prop), (∀ (u : Go.World), S' u → S u) ∧ S' (Go.World.alloc (Go.World.drew w_1) (Go.Obj.cells #[Go.Value.slice x x_2 x_3] (30 : Nat))) ∧ Go.Sx.CallsV
 Go.Proofs.Try.prog (22 : Nat) #[Go.Value.slice Option.none (0 : Nat) (0 : Nat), Go.Value.slice (Option.some (Go.Addr.mk (Array.size (Go.World.heap (Go.World.drew w_1))) (0 : Nat) Option.none)) (1 :
 Nat) (1 : Nat)] (Go.World.alloc (Go.World.drew w_1) (Go.Obj.cells #[Go.Value.slice x x_2 x_3] (30 : Nat))) fun (v : Go.Value) (w' : Go.World) => ∃ (x_4 : Option Go.Addr), ∃ (x_5 : Nat), ∃ (x_6 : Nat),
 v = Go.Value.slice x_4 x_5 x_6 ∧ ∃ (S'_1 : Go.World → Prop), (∀ (u : Go.World), S'_1 u → S' u) ∧ S'_1 w' ∧ ∃ (r : ByteArray), (∀ (u : Go.World), S'_1 u → Go.Sx.RunsTo Go.Proofs.Try.prog (Go.convert (30
 : Nat) (9 : Nat) (Go.Value.slice x_4 x_5 x_6)) u (Go.Value.string r) u) ∧ Go.Sx.CallsV Go.Proofs.Try.prog (21 : Nat) #[Go.Value.slice Option.none (0 : Nat) (0 : Nat), Go.Value.slice x x_2 x_3] w' fun
 (v : Go.Value) (w' : Go.World) => ∃ (x : Option Go.Addr), ∃ (x_7 : Nat), ∃ (x_8 : Nat), v = Go.Value.slice x x_7 x_8 ∧ ∃ (S' : Go.World → Prop), (∀ (u : Go.World), S' u → S'_1 u) ∧ S' w' ∧ ∃ (r_1 :
 ByteArray), (∀ (u : Go.World), S' u → Go.Sx.RunsTo Go.Proofs.Try.prog (Go.convert (30 : Nat) (9 : Nat) (Go.Value.slice x x_7 x_8)) u (Go.Value.string r_1) u) ∧ ByteArray.size (ByteArray.mk #[(1 :
 UInt8)]) + ByteArray.size r_1 ≤ (9223372036854775807 : Nat) ∧ bif !ByteArray.toList r == ByteArray.toList (ByteArray.mk #[(1 : UInt8)] ++ r_1) then bif Decidable.decide ((100 : Int) < (↑x_2 : Int))
 then Go.Sx.CallsV Go.Proofs.Try.prog (14 : Nat) #[] w' fun (v : Go.Value) (w' : Go.World) => ∃ (x : Bool), v = Go.Value.bool x ∧ K (Go.Value.bool x) w' else K (Go.Value.bool Bool.false) w' else I_1
 (Go.IntKind.wrap Go.IntKind.i64 (x_1 + (1 : Int))) w' ∧ μ_1 (Go.IntKind.wrap Go.IntKind.i64 (x_1 + (1 : Int))) w' < μ_1 x_1 w_1 else I (Go.IntKind.wrap Go.IntKind.i64 (x + (1 : Int))) w_1 ∧ μ
 (Go.IntKind.wrap Go.IntKind.i64 (x + (1 : Int))) w_1 < μ x w else False else Go.Sx.CallsV Go.Proofs.Try.prog (27 : Nat) #[Go.Value.slice a_A a_n a_c] w fun (v : Go.Value) (w' : Go.World) => ∃ (x :
 ByteArray), ∃ (x_1 : ByteArray), ∃ (x_2 : Bool), v = Go.Value.tuple #[Go.Value.string x, Go.Value.string x_1, Go.Value.bool x_2] ∧ Go.Sx.CallsV Go.Proofs.Try.prog (27 : Nat) #[Go.Value.slice b_A b_n
 b_c] w' fun (v : Go.Value) (w' : Go.World) => ∃ (x_3 : ByteArray), ∃ (x_4 : ByteArray), ∃ (x_5 : Bool), v = Go.Value.tuple #[Go.Value.string x_3, Go.Value.string x_4, Go.Value.bool x_5] ∧ ∃ (x_6 :
 Option Go.Addr), ∃ (x_7 : Nat), ∃ (x_8 : Nat), ∃ (w'_1 : Go.World), Go.Sx.RunsTo Go.Proofs.Try.prog (Go.Builtin.append_ (Array.mk [(34 : Nat), (34 : Nat)]) (34 : Nat) #[Go.Value.slice (Option.some
 (Go.Addr.mk (Array.size (Go.World.heap w')) (0 : Nat) Option.none)) (0 : Nat) (0 : Nat), Go.Value.slice a_A a_n a_c]) (Go.World.alloc w' (Go.Obj.cells #[] (30 : Nat))) (Go.Value.slice x_6 x_7 x_8) w'_1
 ∧ ∃ (x_9 : Option Go.Addr), ∃ (x_10 : Nat), ∃ (x_11 : Nat), ∃ (w' : Go.World), Go.Sx.RunsTo Go.Proofs.Try.prog (Go.Builtin.append_ (Array.mk [(34 : Nat), (34 : Nat)]) (34 : Nat) #[Go.Value.slice x_6
 x_7 x_8, Go.Value.slice b_A b_n b_c]) w'_1 (Go.Value.slice x_9 x_10 x_11) w' ∧ Go.Sx.CallsV Go.Proofs.Try.prog (27 : Nat) #[Go.Value.slice x_9 x_10 x_11] w' fun (v : Go.Value) (w' : Go.World) => ∃
 (x_12 : ByteArray), ∃ (x_13 : ByteArray), ∃ (x_14 : Bool), v = Go.Value.tuple #[Go.Value.string x_12, Go.Value.string x_13, Go.Value.bool x_14] ∧ bif x_2 then bif x_5 then bif x_14 then bif
 ByteArray.toList x == ByteArray.toList x_1 then bif ByteArray.toList x_3 == ByteArray.toList x_4 then bif ByteArray.toList x_12 == ByteArray.toList x_13 then ByteArray.size x + ByteArray.size x_3 ≤
 (9223372036854775807 : Nat) ∧ bif ByteArray.toList x_12 == ByteArray.toList (x ++ x_3) then Go.Sx.CallsV Go.Proofs.Try.prog (14 : Nat) #[] w' fun (v : Go.Value) (w' : Go.World) => ∃ (x : Bool), v =
 Go.Value.bool x ∧ K (Go.Value.bool x) w' else K (Go.Value.bool Bool.false) w' else K (Go.Value.bool Bool.false) w' else K (Go.Value.bool Bool.false) w' else K (Go.Value.bool Bool.false) w' else K
 (Go.Value.bool Bool.false) w' else K (Go.Value.bool Bool.false) w' else K (Go.Value.bool Bool.false) w'
theorem cardindexlaw01_BytesJoin.eq (a_A : Option Addr) (a_n : Nat) (a_c : Nat) (b_A : Option Addr) (b_n : Nat) (b_c : Nat) (w : World) (K : Value → World → Prop) : cardindexlaw01_BytesJoin.W a_A a_n a_c b_A b_n b_c w K = fnW Try.prog Try.f8 (.seq .auto (.seq .auto (.seq .auto (.seq (.seq .auto (.block (.loop [(31, .one (.int .i64))] (.seq .auto (.seq .auto (.seq (.block (.seq .auto (.seq .auto (.block (.loop [(36, .one (.int .i64))] .auto))))) .auto)))))) .auto)))) [.slice a_A a_n a_c, .slice b_A b_n b_c] w K := by kernel_rfl
theorem cardindexlaw01_BytesJoin.calls (ok : Okay Try.prog) {a_A : Option Addr} {a_n : Nat} {a_c : Nat} {b_A : Option Addr} {b_n : Nat} {b_c : Nat} {w : World} {K : Value → World → Prop} (h : cardindexlaw01_BytesJoin.W a_A a_n a_c b_A b_n b_c w K) : CallsV Try.prog 8 #[.slice a_A a_n a_c, .slice b_A b_n b_c] w K :=
  fnW_calls ok Try.func8 (an := (.seq .auto (.seq .auto (.seq .auto (.seq (.seq .auto (.block (.loop [(31, .one (.int .i64))] (.seq .auto (.seq .auto (.seq (.block (.seq .auto (.seq .auto (.block (.loop [(36, .one (.int .i64))] .auto))))) .auto)))))) .auto))))) (args := [.slice a_A a_n a_c, .slice b_A b_n b_c]) (by rw [← cardindexlaw01_BytesJoin.eq]; exact h)
noncomputable def cardindexlaw01_BytesJoin_1.W : Option Addr → Nat → Nat → World → (Value → World → Prop) → Prop := fun (l_A : Option Go.Addr) (l_n l_c : Nat) (w : Go.World) (K : Go.Value → Go.World →
 Prop) => Go.Sx.CallsV Go.Proofs.Try.prog (22 : Nat) #[Go.Value.slice Option.none (0 : Nat) (0 : Nat), Go.Value.slice l_A l_n l_c] w fun (v : Go.Value) (w' : Go.World) => ∃ (x : Option Go.Addr), ∃ (x_1
 : Nat), ∃ (x_2 : Nat), v = Go.Value.slice x x_1 x_2 ∧ Go.Sx.CallsV Go.Proofs.Try.prog (20 : Nat) #[Go.Value.slice Option.none (0 : Nat) (0 : Nat), Go.Value.int Go.IntKind.u64 (Go.IntKind.wrap
 Go.IntKind.u64 (↑l_n : Int))] w' fun (v : Go.Value) (w' : Go.World) => ∃ (x_3 : Option Go.Addr), ∃ (x_4 : Nat), ∃ (x_5 : Nat), v = Go.Value.slice x_3 x_4 x_5 ∧ ∃ (I : ByteArray → Int → Go.World →
 Prop), ∃ (μ : ByteArray → Int → Go.World → Nat), I (ByteArray.mk #[]) (0 : Int) w' ∧ ∀ (x_6 : ByteArray) (x_7 : Int) (w : Go.World), I x_6 x_7 w → bif Decidable.decide (x_7 < (↑l_n : Int)) then ∃ (ad :
 Go.Addr), l_A = Option.some ad ∧ ((0 : Int) ≤ x_7 ∧ x_7 < (↑l_n : Int)) ∧ ∃ (x : Option Go.Addr), ∃ (x_8 : Nat), ∃ (x_9 : Nat), Go.World.cell? w (Go.Addr.add ad (Int.toNat x_7 * (1 : Nat))) =
 Option.some (Go.Value.slice x x_8 x_9) ∧ Go.Sx.CallsV Go.Proofs.Try.prog (21 : Nat) #[Go.Value.slice Option.none (0 : Nat) (0 : Nat), Go.Value.slice x x_8 x_9] w fun (v : Go.Value) (w' : Go.World) => ∃
 (x : Option Go.Addr), ∃ (x_10 : Nat), ∃ (x_11 : Nat), v = Go.Value.slice x x_10 x_11 ∧ ∃ (x_12 : ByteArray), ∃ (w'_1 : Go.World), Go.Sx.RunsTo Go.Proofs.Try.prog (Go.convert (30 : Nat) (9 : Nat)
 (Go.Value.slice x x_10 x_11)) w' (Go.Value.string x_12) w'_1 ∧ ByteArray.size x_6 + ByteArray.size x_12 ≤ (9223372036854775807 : Nat) ∧ I (x_6 ++ x_12) (Go.IntKind.wrap Go.IntKind.i64 (x_7 + (1 :
 Int))) w'_1 ∧ μ (x_6 ++ x_12) (Go.IntKind.wrap Go.IntKind.i64 (x_7 + (1 : Int))) w'_1 < μ x_6 x_7 w else bif Decidable.decide ((↑x_1 : Int) < (↑x_4 : Int)) then K (Go.Value.tuple #[Go.Value.string
 (ByteArray.mk #[]), Go.Value.string (ByteArray.mk #[]), Go.Value.bool Bool.false]) w else ∃ (S : Go.World → Prop), S (Go.World.drew w) ∧ ((0 : Int) ≤ (↑x_4 : Int) ∧ (↑x_4 : Int) ≤ (↑x_1 : Int)) ∧ ∃ (r
 : ByteArray), (∀ (u : Go.World), S u → Go.Sx.RunsTo Go.Proofs.Try.prog (Go.convert (30 : Nat) (9 : Nat) (Go.Value.slice (Go.Sx.cutAt x x_2 (Int.toNat (↑x_4 : Int)) (1 : Nat)) (x_1 - Int.toNat (↑x_4 :
 Int)) (x_2 - Int.toNat (↑x_4 : Int)))) u (Go.Value.string r) u) ∧ ((0 : Int) ≤ (↑x_4 : Int) ∧ (↑x_4 : Int) ≤ (↑x_2 : Int)) ∧ ∃ (r_1 : ByteArray), (∀ (u : Go.World), S u → Go.Sx.RunsTo
 Go.Proofs.Try.prog (Go.convert (30 : Nat) (9 : Nat) (Go.Value.slice (Go.Sx.cutAt x x_2 (0 : Nat) (1 : Nat)) (Int.toNat (↑x_4 : Int) - (0 : Nat)) (x_2 - (0 : Nat)))) u (Go.Value.string r_1) u) ∧
 Go.Sx.CallsV Go.Proofs.Try.prog (20 : Nat) #[Go.Value.slice Option.none (0 : Nat) (0 : Nat), Go.Value.int Go.IntKind.u64 (Go.IntKind.wrap Go.IntKind.u64 (↑l_n : Int))] (Go.World.drew w) fun (v :
 Go.Value) (w' : Go.World) => ∃ (x : Option Go.Addr), ∃ (x_8 : Nat), ∃ (x_9 : Nat), v = Go.Value.slice x x_8 x_9 ∧ ∃ (S' : Go.World → Prop), (∀ (u : Go.World), S' u → S u) ∧ S' w' ∧ ∃ (r_2 : ByteArray),
 (∀ (u : Go.World), S' u → Go.Sx.RunsTo Go.Proofs.Try.prog (Go.convert (30 : Nat) (9 : Nat) (Go.Value.slice x x_8 x_9)) u (Go.Value.string r_2) u) ∧ K (Go.Value.tuple #[Go.Value.string r,
 Go.Value.string x_6, Go.Value.bool (ByteArray.toList r_1 == ByteArray.toList r_2)]) w'
theorem cardindexlaw01_BytesJoin_1.eq (l_A : Option Addr) (l_n : Nat) (l_c : Nat) (w : World) (K : Value → World → Prop) : cardindexlaw01_BytesJoin_1.W l_A l_n l_c w K = fnW Try.prog Try.f27 (.seq .auto (.seq .auto (.seq .auto (.seq .auto (.seq (.seq .auto (.block (.loop [(7, .one .str), (19, .one (.int .i64))] .auto))) .auto))))) [.slice l_A l_n l_c] w K := by kernel_rfl
theorem cardindexlaw01_BytesJoin_1.calls (ok : Okay Try.prog) {l_A : Option Addr} {l_n : Nat} {l_c : Nat} {w : World} {K : Value → World → Prop} (h : cardindexlaw01_BytesJoin_1.W l_A l_n l_c w K) : CallsV Try.prog 27 #[.slice l_A l_n l_c] w K :=
  fnW_calls ok Try.func27 (an := (.seq .auto (.seq .auto (.seq .auto (.seq .auto (.seq (.seq .auto (.block (.loop [(7, .one .str), (19, .one (.int .i64))] .auto))) .auto)))))) (args := [.slice l_A l_n l_c]) (by rw [← cardindexlaw01_BytesJoin_1.eq]; exact h)
end Go.Proofs.Ytbpcfkahnhlahaa
