/- Part 4 of the texts of this claim: the engine, contracts, plain laws. -/
import Derived.Test.YtadlhdiejmilmaaProg
import Derived.Test.YtadlhdiejmilmaaZCNumbers4P1
import Derived.Test.YtadlhdiejmilmaaZCNumbers4P2
import Derived.Lib.Bytealg
/- The preconditions of Go functions, printed by a program of this workplace (nests.py); each is proved to be the engine's own. -/
set_option linter.unusedVariables false
set_option maxRecDepth 100000
namespace Go.Proofs.Ytadlhdiejmilmaa
open Go Go.Sx
noncomputable def tree_New.W : Int → Int → World → (Value → World → Prop) → Prop := fun (fan most : Int) (w : Go.World) (K : Go.Value → Go.World → Prop) => bif Decidable.decide (fan < (4 : Int)) then K
 (Go.Value.tuple #[Go.Value.pointer Option.none, Go.Value.int Go.IntKind.i64 (2 : Int)]) w else bif Decidable.decide ((64 : Int) < fan) then K (Go.Value.tuple #[Go.Value.pointer Option.none,
 Go.Value.int Go.IntKind.i64 (2 : Int)]) w else bif Decidable.decide (most < (1 : Int)) then K (Go.Value.tuple #[Go.Value.pointer Option.none, Go.Value.int Go.IntKind.i64 (2 : Int)]) w else bif
 Decidable.decide ((65536 : Int) < most) then K (Go.Value.tuple #[Go.Value.pointer Option.none, Go.Value.int Go.IntKind.i64 (2 : Int)]) w else ∃ (x : Option Nat), ∃ (w' : Go.World), Go.Sx.RunsTo
 Go.Proofs.Try.prog (Go.Instr.makeMap (30 : Nat) Option.none) w (Go.Value.map x) w' ∧ ∀ (g : Nat) (w'_1 : Go.World), Go.Sx.Fresh w' g w'_1 [Go.Value.int Go.IntKind.i64 fan, Go.Value.int Go.IntKind.i64
 most, Go.Value.slice Option.none (0 : Nat) (0 : Nat), Go.Value.slice Option.none (0 : Nat) (0 : Nat), Go.Value.map x, Go.Value.int Go.IntKind.i64 (0 : Int)] (85 : Nat) → K (Go.Value.tuple
 #[Go.Value.pointer (Option.some (Go.Addr.mk g (0 : Nat) Option.none)), Go.Value.int Go.IntKind.i64 (0 : Int)]) w'_1
theorem tree_New.eq (fan : Int) (most : Int) (w : World) (K : Value → World → Prop) : tree_New.W fan most w K = fnW Try.prog Try.f13 (.named .auto) [.int .i64 fan, .int .i64 most] w K := by kernel_rfl
theorem tree_New.calls (ok : Okay Try.prog) {fan : Int} {most : Int} {w : World} {K : Value → World → Prop} (h : tree_New.W fan most w K) : CallsV Try.prog 13 #[.int .i64 fan, .int .i64 most] w K :=
  fnW_calls ok Try.func13 (an := (.named .auto)) (args := [.int .i64 fan, .int .i64 most]) (by rw [← tree_New.eq]; exact h)
noncomputable def tree_Arena_Create.W : Option Addr → World → (Value → World → Prop) → Prop := fun (a : Option Go.Addr) (w : Go.World) (K : Go.Value → Go.World → Prop) => Go.Sx.CallsV
 Go.Proofs.Try.prog (43 : Nat) #[Go.Value.pointer a] w fun (v : Go.Value) (w' : Go.World) => ∃ (x : Bool), v = Go.Value.bool x ∧ bif !x then K (Go.Value.tuple #[Go.Value.int Go.IntKind.i64 (0 : Int),
 Go.Value.int Go.IntKind.i64 (1 : Int)]) w' else ∃ (a_1 : Go.Addr), a = Option.some a_1 ∧ ∃ (S : Go.World → Prop), S (Go.World.drew w') ∧ ∃ (x : Option Nat), (∀ (u : Go.World), S u → Go.World.cell? u
 (Go.Addr.add a_1 (4 : Nat)) = Option.some (Go.Value.map x)) ∧ ∃ (x_1 : Int), ∃ (w'_1 : Go.World), Go.Sx.RunsTo Go.Proofs.Try.prog (Go.Builtin.len_ (Array.mk [(30 : Nat)]) (3 : Nat) #[Go.Value.map x])
 (Go.World.drew w') (Go.Value.int Go.IntKind.i64 x_1) w'_1 ∧ bif Decidable.decide ((1000 : Int) ≤ x_1) then K (Go.Value.tuple #[Go.Value.int Go.IntKind.i64 (0 : Int), Go.Value.int Go.IntKind.i64 (5 :
 Int)]) w'_1 else ∃ (a_2 : Go.Addr), a = Option.some a_2 ∧ ∃ (S : Go.World → Prop), S w'_1 ∧ ∃ (x : Int), (∀ (u : Go.World), S u → Go.World.cell? u (Go.Addr.add a_2 (1 : Nat)) = Option.some
 (Go.Value.int Go.IntKind.i64 x)) ∧ Go.Sx.CallsV Go.Proofs.Try.prog (15 : Nat) #[Go.Value.pointer a] w'_1 fun (v : Go.Value) (w' : Go.World) => ∃ (x_2 : Int), v = Go.Value.int Go.IntKind.i64 x_2 ∧ S w'
 ∧ bif Decidable.decide (x ≤ x_2) then K (Go.Value.tuple #[Go.Value.int Go.IntKind.i64 (0 : Int), Go.Value.int Go.IntKind.i64 (5 : Int)]) w' else ∃ (a_3 : Go.Addr), a = Option.some a_3 ∧ ∃ (x : Int),
 Go.World.cell? w' (Go.Addr.add a_3 (5 : Nat)) = Option.some (Go.Value.int Go.IntKind.i64 x) ∧ ∃ (a_4 : Go.Addr), a = Option.some a_4 ∧ Go.Sx.stOK (Go.Addr.add a_4 (5 : Nat)) (0 : Nat) [Go.Value.int
 Go.IntKind.i64 (Go.IntKind.wrap Go.IntKind.i64 (x + (1 : Int)))] w' ∧ ∀ (w'_2 : Go.World), w'_2 = Go.Sx.setAll (Go.Addr.add a_4 (5 : Nat)) (0 : Nat) [Go.Value.int Go.IntKind.i64 (Go.IntKind.wrap
 Go.IntKind.i64 (x + (1 : Int)))] w' → ∃ (J : Go.World → Prop), (∀ (w : Go.World), J w → ∃ (a_7 : Go.Addr), a = Option.some a_7 ∧ ∃ (x : Int), Go.World.cell? w (Go.Addr.add a_7 (5 : Nat)) = Option.some
 (Go.Value.int Go.IntKind.i64 x) ∧ K (Go.Value.tuple #[Go.Value.int Go.IntKind.i64 x, Go.Value.int Go.IntKind.i64 (0 : Int)]) w) ∧ ∃ (a_6 : Go.Addr), a = Option.some a_6 ∧ ∃ (S : Go.World → Prop), S
 (Go.World.drew w'_2) ∧ ∃ (x : Option Nat), (∀ (u : Go.World), S u → Go.World.cell? u (Go.Addr.add a_6 (4 : Nat)) = Option.some (Go.Value.map x)) ∧ ∃ (a_7 : Go.Addr), a = Option.some a_7 ∧ ∃ (x_3 :
 Int), (∀ (u : Go.World), S u → Go.World.cell? u (Go.Addr.add a_7 (5 : Nat)) = Option.some (Go.Value.int Go.IntKind.i64 x_3)) ∧ ∀ (g : Nat) (w' : Go.World), Go.Sx.Fresh (Go.World.drew w'_2) g w'
 [Go.Value.slice Option.none (0 : Nat) (0 : Nat), Go.Value.slice Option.none (0 : Nat) (0 : Nat), Go.Value.slice Option.none (0 : Nat) (0 : Nat)] (92 : Nat) → S w' ∧ Go.Sx.CallsV Go.Proofs.Try.prog (44
 : Nat) #[Go.Value.pointer a, Go.Value.pointer (Option.some (Go.Addr.mk g (0 : Nat) Option.none))] w' fun (v : Go.Value) (w' : Go.World) => ∃ (x_4 : Int), v = Go.Value.int Go.IntKind.i64 x_4 ∧ S w' ∧ ∃
 (w'_3 : Go.World), Go.Sx.RunsTo Go.Proofs.Try.prog (Go.Instr.mapUpdate (30 : Nat) (Go.Value.map x) (Go.Value.int Go.IntKind.i64 x_3) (Go.Value.int Go.IntKind.i64 x_4)) w' () w'_3 ∧ J w'_3
theorem tree_Arena_Create.eq (a : Option Addr) (w : World) (K : Value → World → Prop) : tree_Arena_Create.W a w K = fnW Try.prog Try.f14 (.named (.seq .auto (.seq .auto (.seq .auto (.join [] .auto .auto))))) [.pointer a] w K := by kernel_rfl
theorem tree_Arena_Create.calls (ok : Okay Try.prog) {a : Option Addr} {w : World} {K : Value → World → Prop} (h : tree_Arena_Create.W a w K) : CallsV Try.prog 14 #[.pointer a] w K :=
  fnW_calls ok Try.func14 (an := (.named (.seq .auto (.seq .auto (.seq .auto (.join [] .auto .auto)))))) (args := [.pointer a]) (by rw [← tree_Arena_Create.eq]; exact h)
noncomputable def tree_Arena_Nodes.W : Option Addr → World → (Value → World → Prop) → Prop := fun (a : Option Go.Addr) (w : Go.World) (K : Go.Value → Go.World → Prop) => bif Option.isNone a then K
 (Go.Value.int Go.IntKind.i64 (0 : Int)) w else ∃ (a_1 : Go.Addr), a = Option.some a_1 ∧ ∃ (S : Go.World → Prop), S (Go.World.drew w) ∧ ∃ (x : Option Go.Addr), ∃ (x_1 : Nat), ∃ (x_2 : Nat), (∀ (u :
 Go.World), S u → Go.World.cell? u (Go.Addr.add a_1 (2 : Nat)) = Option.some (Go.Value.slice x x_1 x_2)) ∧ ∃ (a_2 : Go.Addr), a = Option.some a_2 ∧ ∃ (x : Option Go.Addr), ∃ (x_3 : Nat), ∃ (x_4 : Nat),
 (∀ (u : Go.World), S u → Go.World.cell? u (Go.Addr.add a_2 (3 : Nat)) = Option.some (Go.Value.slice x x_3 x_4)) ∧ K (Go.Value.int Go.IntKind.i64 (Go.IntKind.wrap Go.IntKind.i64 ((↑x_1 : Int) - (↑x_3 :
 Int)))) (Go.World.drew w)
theorem tree_Arena_Nodes.eq (a : Option Addr) (w : World) (K : Value → World → Prop) : tree_Arena_Nodes.W a w K = fnW Try.prog Try.f15 (.named .auto) [.pointer a] w K := by kernel_rfl
theorem tree_Arena_Nodes.calls (ok : Okay Try.prog) {a : Option Addr} {w : World} {K : Value → World → Prop} (h : tree_Arena_Nodes.W a w K) : CallsV Try.prog 15 #[.pointer a] w K :=
  fnW_calls ok Try.func15 (an := (.named .auto)) (args := [.pointer a]) (by rw [← tree_Arena_Nodes.eq]; exact h)
noncomputable def tree_Arena_Deep.W : Option Addr → Int → World → (Value → World → Prop) → Prop := fun (a : Option Go.Addr) (root : Int) (w : Go.World) (K : Go.Value → Go.World → Prop) => Go.Sx.CallsV
 Go.Proofs.Try.prog (45 : Nat) #[Go.Value.pointer a, Go.Value.int Go.IntKind.i64 root] w fun (v : Go.Value) (w' : Go.World) => ∃ (x : Int), ∃ (x_1 : Int), v = Go.Value.tuple #[Go.Value.int
 Go.IntKind.i64 x, Go.Value.int Go.IntKind.i64 x_1] ∧ bif !Decidable.decide (x_1 = (0 : Int)) then K (Go.Value.int Go.IntKind.i64 (0 : Int)) w' else ∃ (a_1 : Go.Addr), a = Option.some a_1 ∧ ∃ (x_2 :
 Option Go.Addr), ∃ (x_3 : Nat), ∃ (x_4 : Nat), Go.World.cell? w' (Go.Addr.add a_1 (2 : Nat)) = Option.some (Go.Value.slice x_2 x_3 x_4) ∧ ∃ (ad : Go.Addr), x_2 = Option.some ad ∧ ((0 : Int) ≤ x ∧ x <
 (↑x_3 : Int)) ∧ ∃ (x_5 : Option Go.Addr), Go.World.cell? w' (Go.Addr.add ad (Int.toNat x * (1 : Nat))) = Option.some (Go.Value.pointer x_5) ∧ ∃ (I : Int → Option Go.Addr → Go.World → Prop), ∃ (μ : Int
 → Option Go.Addr → Go.World → Nat), I (1 : Int) x_5 w' ∧ ∀ (x : Int) (x_6 : Option Go.Addr) (w : Go.World), I x x_6 w → ∃ (a_3 : Go.Addr), x_6 = Option.some a_3 ∧ ∃ (x_7 : Option Go.Addr), ∃ (x_8 :
 Nat), ∃ (x_9 : Nat), Go.World.cell? w (Go.Addr.add a_3 (2 : Nat)) = Option.some (Go.Value.slice x_7 x_8 x_9) ∧ bif !Option.isNone x_7 then ∃ (a_4 : Go.Addr), a = Option.some a_4 ∧ ∃ (S : Go.World →
 Prop), S (Go.World.drew w) ∧ ∃ (x_10 : Option Go.Addr), ∃ (x_11 : Nat), ∃ (x_12 : Nat), (∀ (u : Go.World), S u → Go.World.cell? u (Go.Addr.add a_4 (2 : Nat)) = Option.some (Go.Value.slice x_10 x_11
 x_12)) ∧ ∃ (a : Go.Addr), x_6 = Option.some a ∧ ∃ (x_13 : Option Go.Addr), ∃ (x_14 : Nat), ∃ (x_15 : Nat), (∀ (u : Go.World), S u → Go.World.cell? u (Go.Addr.add a (2 : Nat)) = Option.some
 (Go.Value.slice x_13 x_14 x_15)) ∧ ∃ (ad : Go.Addr), x_13 = Option.some ad ∧ ((0 : Int) ≤ (0 : Int) ∧ (0 : Int) < (↑x_14 : Int)) ∧ ∃ (x_16 : Int), (∀ (u : Go.World), S u → Go.World.cell? u (Go.Addr.add
 ad (Int.toNat (0 : Int) * (1 : Nat))) = Option.some (Go.Value.int Go.IntKind.i64 x_16)) ∧ ∃ (ad : Go.Addr), x_10 = Option.some ad ∧ ((0 : Int) ≤ x_16 ∧ x_16 < (↑x_11 : Int)) ∧ ∃ (x_17 : Option
 Go.Addr), (∀ (u : Go.World), S u → Go.World.cell? u (Go.Addr.add ad (Int.toNat x_16 * (1 : Nat))) = Option.some (Go.Value.pointer x_17)) ∧ I (Go.IntKind.wrap Go.IntKind.i64 (x + (1 : Int))) x_17
 (Go.World.drew w) ∧ μ (Go.IntKind.wrap Go.IntKind.i64 (x + (1 : Int))) x_17 (Go.World.drew w) < μ x x_6 w else K (Go.Value.int Go.IntKind.i64 x) w
theorem tree_Arena_Deep.eq (a : Option Addr) (root : Int) (w : World) (K : Value → World → Prop) : tree_Arena_Deep.W a root w K = fnW Try.prog Try.f16 (.named (.seq .auto (.seq .auto (.seq .auto (.seq .auto (.seq (.seq .auto (.block (.loop [(7, .one (.int .i64)), (8, .one .ptr)] .auto))) .auto)))))) [.pointer a, .int .i64 root] w K := by kernel_rfl
theorem tree_Arena_Deep.calls (ok : Okay Try.prog) {a : Option Addr} {root : Int} {w : World} {K : Value → World → Prop} (h : tree_Arena_Deep.W a root w K) : CallsV Try.prog 16 #[.pointer a, .int .i64 root] w K :=
  fnW_calls ok Try.func16 (an := (.named (.seq .auto (.seq .auto (.seq .auto (.seq .auto (.seq (.seq .auto (.block (.loop [(7, .one (.int .i64)), (8, .one .ptr)] .auto))) .auto))))))) (args := [.pointer a, .int .i64 root]) (by rw [← tree_Arena_Deep.eq]; exact h)
noncomputable def tree_Arena_Put.W : Option Addr → Int → Option Addr → Nat → Nat → Option Addr → Nat → Nat → World → (Value → World → Prop) → Prop := fun (a : Option Go.Addr) (root : Int) (key_A :
 Option Go.Addr) (key_n key_c : Nat) (val_A : Option Go.Addr) (val_n val_c : Nat) (w : Go.World) (K : Go.Value → Go.World → Prop) => Go.Sx.CallsV Go.Proofs.Try.prog (45 : Nat) #[Go.Value.pointer a,
 Go.Value.int Go.IntKind.i64 root] w fun (v : Go.Value) (w' : Go.World) => ∃ (x : Int), ∃ (x_1 : Int), v = Go.Value.tuple #[Go.Value.int Go.IntKind.i64 x, Go.Value.int Go.IntKind.i64 x_1] ∧ bif
 !Decidable.decide (x_1 = (0 : Int)) then K (Go.Value.tuple #[Go.Value.bool Bool.false, Go.Value.int Go.IntKind.i64 x_1]) w' else bif Decidable.decide ((1048576 : Int) < (↑key_n : Int)) then K
 (Go.Value.tuple #[Go.Value.bool Bool.false, Go.Value.int Go.IntKind.i64 (3 : Int)]) w' else bif Decidable.decide ((1048576 : Int) < (↑val_n : Int)) then K (Go.Value.tuple #[Go.Value.bool Bool.false,
 Go.Value.int Go.IntKind.i64 (3 : Int)]) w' else Go.Sx.CallsV Go.Proofs.Try.prog (46 : Nat) #[Go.Value.pointer a, Go.Value.int Go.IntKind.i64 x, Go.Value.slice key_A key_n key_c] w' fun (v : Go.Value)
 (w' : Go.World) => ∃ (x_2 : Option Go.Addr), ∃ (x_3 : Option Go.Addr), ∃ (x_4 : Nat), ∃ (x_5 : Nat), v = Go.Value.tuple #[Go.Value.pointer x_2, Go.Value.slice x_3 x_4 x_5] ∧ ∃ (a_1 : Go.Addr), x_2 =
 Option.some a_1 ∧ ∃ (x_6 : Option Go.Addr), ∃ (x_7 : Nat), ∃ (x_8 : Nat), Go.World.cell? w' (Go.Addr.add a_1 (0 : Nat)) = Option.some (Go.Value.slice x_6 x_7 x_8) ∧ Go.Sx.CallsV Go.Proofs.Try.prog (47
 : Nat) #[Go.Value.slice x_6 x_7 x_8, Go.Value.slice key_A key_n key_c, Go.Value.func (Go.Fn.func (48 : Nat)) #[] #[]] w' fun (v : Go.Value) (w' : Go.World) => ∃ (x_9 : Int), ∃ (x_10 : Bool), v =
 Go.Value.tuple #[Go.Value.int Go.IntKind.i64 x_9, Go.Value.bool x_10] ∧ ∃ (J : Go.World → Prop), (∀ (w : Go.World), J w → Go.Sx.CallsV Go.Proofs.Try.prog (51 : Nat) #[Go.Value.slice key_A key_n key_c]
 w fun (v : Go.Value) (w' : Go.World) => ∃ (x_11 : Option Go.Addr), ∃ (x_12 : Nat), ∃ (x_13 : Nat), v = Go.Value.slice x_11 x_12 x_13 ∧ Go.Sx.CallsV Go.Proofs.Try.prog (51 : Nat) #[Go.Value.slice val_A
 val_n val_c] w' fun (v : Go.Value) (w' : Go.World) => ∃ (x_14 : Option Go.Addr), ∃ (x_15 : Nat), ∃ (x_16 : Nat), v = Go.Value.slice x_14 x_15 x_16 ∧ Go.Sx.CallsV Go.Proofs.Try.prog (50 : Nat)
 #[Go.Value.pointer a, Go.Value.int Go.IntKind.i64 x, Go.Value.slice x_11 x_12 x_13, Go.Value.slice x_14 x_15 x_16] w' fun (v : Go.Value) (w' : Go.World) => ∃ (x_17 : Option Go.Addr), ∃ (x_18 : Nat), ∃
 (x_19 : Nat), ∃ (x_20 : Int), ∃ (x_21 : Bool), v = Go.Value.tuple #[Go.Value.slice x_17 x_18 x_19, Go.Value.int Go.IntKind.i64 x_20, Go.Value.bool x_21] ∧ bif x_21 then ∃ (a_3 : Go.Addr), a =
 Option.some a_3 ∧ ∃ (x_22 : Option Go.Addr), ∃ (x_23 : Nat), ∃ (x_24 : Nat), Go.World.cell? w' (Go.Addr.add a_3 (2 : Nat)) = Option.some (Go.Value.slice x_22 x_23 x_24) ∧ ∃ (ad : Go.Addr), x_22 =
 Option.some ad ∧ ((0 : Int) ≤ x ∧ x < (↑x_23 : Int)) ∧ ∃ (x_25 : Option Go.Addr), Go.World.cell? w' (Go.Addr.add ad (Int.toNat x * (1 : Nat))) = Option.some (Go.Value.pointer x_25) ∧ Go.Sx.CallsV
 Go.Proofs.Try.prog (44 : Nat) #[Go.Value.pointer a, Go.Value.pointer x_25] w' fun (v : Go.Value) (w' : Go.World) => ∃ (x_26 : Int), v = Go.Value.int Go.IntKind.i64 x_26 ∧ ∃ (a_4 : Go.Addr), a =
 Option.some a_4 ∧ ∃ (x_27 : Option Go.Addr), ∃ (x_28 : Nat), ∃ (x_29 : Nat), Go.World.cell? w' (Go.Addr.add a_4 (2 : Nat)) = Option.some (Go.Value.slice x_27 x_28 x_29) ∧ ∀ (g : Nat) (w'_1 : Go.World),
 Go.Sx.Fresh w' g w'_1 [Go.Value.slice x_17 x_18 x_19] (36 : Nat) → ∀ (g_1 : Nat) (w' : Go.World), Go.Sx.Fresh w'_1 g_1 w' [Go.Value.int Go.IntKind.i64 x_26, Go.Value.int Go.IntKind.i64 x_20] (3 : Nat)
 → ∀ (g_2 : Nat) (w'_2 : Go.World), Go.Sx.Fresh w' g_2 w'_2 [Go.Value.slice (Option.some (Go.Addr.mk g (0 : Nat) Option.none)) (1 : Nat) (1 : Nat), Go.Value.slice Option.none (0 : Nat) (0 : Nat),
 Go.Value.slice (Option.some (Go.Addr.mk g_1 (0 : Nat) Option.none)) (2 : Nat) (2 : Nat)] (92 : Nat) → ∃ (ad : Go.Addr), x_27 = Option.some ad ∧ ((0 : Int) ≤ x ∧ x < (↑x_28 : Int)) ∧ Go.Sx.stOK
 (Go.Addr.add ad (Int.toNat x * (1 : Nat))) (0 : Nat) [Go.Value.pointer (Option.some (Go.Addr.mk g_2 (0 : Nat) Option.none))] w'_2 ∧ ∀ (w' : Go.World), w' = Go.Sx.setAll (Go.Addr.add ad (Int.toNat x *
 (1 : Nat))) (0 : Nat) [Go.Value.pointer (Option.some (Go.Addr.mk g_2 (0 : Nat) Option.none))] w'_2 → K (Go.Value.tuple #[Go.Value.bool x_10, Go.Value.int Go.IntKind.i64 (0 : Int)]) w' else K
 (Go.Value.tuple #[Go.Value.bool x_10, Go.Value.int Go.IntKind.i64 (0 : Int)]) w') ∧ bif !x_10 then ∃ (a_2 : Go.Addr), a = Option.some a_2 ∧ ∃ (S : Go.World → Prop), S (Go.World.drew w') ∧ ∃ (x : Int),
 (∀ (u : Go.World), S u → Go.World.cell? u (Go.Addr.add a_2 (1 : Nat)) = Option.some (Go.Value.int Go.IntKind.i64 x)) ∧ Go.Sx.CallsV Go.Proofs.Try.prog (15 : Nat) #[Go.Value.pointer a] (Go.World.drew
 w') fun (v : Go.Value) (w' : Go.World) => ∃ (x_11 : Int), v = Go.Value.int Go.IntKind.i64 x_11 ∧ S w' ∧ Go.Sx.CallsV Go.Proofs.Try.prog (49 : Nat) #[Go.Value.pointer a, Go.Value.slice x_3 x_4 x_5] w'
 fun (v : Go.Value) (w' : Go.World) => ∃ (x_12 : Int), v = Go.Value.int Go.IntKind.i64 x_12 ∧ S w' ∧ bif Decidable.decide (x < Go.IntKind.wrap Go.IntKind.i64 (x_11 + x_12)) then K (Go.Value.tuple
 #[Go.Value.bool Bool.false, Go.Value.int Go.IntKind.i64 (5 : Int)]) w' else J w' else J (Go.World.drew w')
theorem tree_Arena_Put.eq (a : Option Addr) (root : Int) (key_A : Option Addr) (key_n : Nat) (key_c : Nat) (val_A : Option Addr) (val_n : Nat) (val_c : Nat) (w : World) (K : Value → World → Prop) : tree_Arena_Put.W a root key_A key_n key_c val_A val_n val_c w K = fnW Try.prog Try.f17 (.named (.seq .auto (.seq .auto (.seq .auto (.seq .auto (.seq .auto (.join [] .auto .auto))))))) [.pointer a, .int .i64 root, .slice key_A key_n key_c, .slice val_A val_n val_c] w K := by kernel_rfl
theorem tree_Arena_Put.calls (ok : Okay Try.prog) {a : Option Addr} {root : Int} {key_A : Option Addr} {key_n : Nat} {key_c : Nat} {val_A : Option Addr} {val_n : Nat} {val_c : Nat} {w : World} {K : Value → World → Prop} (h : tree_Arena_Put.W a root key_A key_n key_c val_A val_n val_c w K) : CallsV Try.prog 17 #[.pointer a, .int .i64 root, .slice key_A key_n key_c, .slice val_A val_n val_c] w K :=
  fnW_calls ok Try.func17 (an := (.named (.seq .auto (.seq .auto (.seq .auto (.seq .auto (.seq .auto (.join [] .auto .auto)))))))) (args := [.pointer a, .int .i64 root, .slice key_A key_n key_c, .slice val_A val_n val_c]) (by rw [← tree_Arena_Put.eq]; exact h)
noncomputable def tree_Arena_Get.W : Option Addr → Int → Option Addr → Nat → Nat → World → (Value → World → Prop) → Prop := fun (a : Option Go.Addr) (root : Int) (key_A : Option Go.Addr) (key_n key_c :
 Nat) (w : Go.World) (K : Go.Value → Go.World → Prop) => Go.Sx.CallsV Go.Proofs.Try.prog (45 : Nat) #[Go.Value.pointer a, Go.Value.int Go.IntKind.i64 root] w fun (v : Go.Value) (w' : Go.World) => ∃ (x :
 Int), ∃ (x_1 : Int), v = Go.Value.tuple #[Go.Value.int Go.IntKind.i64 x, Go.Value.int Go.IntKind.i64 x_1] ∧ bif !Decidable.decide (x_1 = (0 : Int)) then K (Go.Value.tuple #[Go.Value.slice Option.none
 (0 : Nat) (0 : Nat), Go.Value.bool Bool.false]) w' else Go.Sx.CallsV Go.Proofs.Try.prog (46 : Nat) #[Go.Value.pointer a, Go.Value.int Go.IntKind.i64 x, Go.Value.slice key_A key_n key_c] w' fun (v :
 Go.Value) (w' : Go.World) => ∃ (x : Option Go.Addr), ∃ (x_2 : Option Go.Addr), ∃ (x_3 : Nat), ∃ (x_4 : Nat), v = Go.Value.tuple #[Go.Value.pointer x, Go.Value.slice x_2 x_3 x_4] ∧ ∃ (a : Go.Addr), x =
 Option.some a ∧ ∃ (x_5 : Option Go.Addr), ∃ (x_6 : Nat), ∃ (x_7 : Nat), Go.World.cell? w' (Go.Addr.add a (0 : Nat)) = Option.some (Go.Value.slice x_5 x_6 x_7) ∧ Go.Sx.CallsV Go.Proofs.Try.prog (47 :
 Nat) #[Go.Value.slice x_5 x_6 x_7, Go.Value.slice key_A key_n key_c, Go.Value.func (Go.Fn.func (48 : Nat)) #[] #[]] w' fun (v : Go.Value) (w' : Go.World) => ∃ (x_8 : Int), ∃ (x_9 : Bool), v =
 Go.Value.tuple #[Go.Value.int Go.IntKind.i64 x_8, Go.Value.bool x_9] ∧ bif !x_9 then K (Go.Value.tuple #[Go.Value.slice Option.none (0 : Nat) (0 : Nat), Go.Value.bool Bool.false]) w' else ∃ (a :
 Go.Addr), x = Option.some a ∧ ∃ (x : Option Go.Addr), ∃ (x_10 : Nat), ∃ (x_11 : Nat), Go.World.cell? w' (Go.Addr.add a (1 : Nat)) = Option.some (Go.Value.slice x x_10 x_11) ∧ ∃ (ad : Go.Addr), x =
 Option.some ad ∧ ((0 : Int) ≤ x_8 ∧ x_8 < (↑x_10 : Int)) ∧ ∃ (x : Option Go.Addr), ∃ (x_12 : Nat), ∃ (x_13 : Nat), Go.World.cell? w' (Go.Addr.add ad (Int.toNat x_8 * (1 : Nat))) = Option.some
 (Go.Value.slice x x_12 x_13) ∧ Go.Sx.CallsV Go.Proofs.Try.prog (51 : Nat) #[Go.Value.slice x x_12 x_13] w' fun (v : Go.Value) (w' : Go.World) => ∃ (x : Option Go.Addr), ∃ (x_14 : Nat), ∃ (x_15 : Nat),
 v = Go.Value.slice x x_14 x_15 ∧ K (Go.Value.tuple #[Go.Value.slice x x_14 x_15, Go.Value.bool Bool.true]) w'
theorem tree_Arena_Get.eq (a : Option Addr) (root : Int) (key_A : Option Addr) (key_n : Nat) (key_c : Nat) (w : World) (K : Value → World → Prop) : tree_Arena_Get.W a root key_A key_n key_c w K = fnW Try.prog Try.f23 (.named .auto) [.pointer a, .int .i64 root, .slice key_A key_n key_c] w K := by kernel_rfl
theorem tree_Arena_Get.calls (ok : Okay Try.prog) {a : Option Addr} {root : Int} {key_A : Option Addr} {key_n : Nat} {key_c : Nat} {w : World} {K : Value → World → Prop} (h : tree_Arena_Get.W a root key_A key_n key_c w K) : CallsV Try.prog 23 #[.pointer a, .int .i64 root, .slice key_A key_n key_c] w K :=
  fnW_calls ok Try.func23 (an := (.named .auto)) (args := [.pointer a, .int .i64 root, .slice key_A key_n key_c]) (by rw [← tree_Arena_Get.eq]; exact h)
noncomputable def tree_Arena_After.W : Option Addr → Int → Option Addr → Nat → Nat → Bool → World → (Value → World → Prop) → Prop := fun (a : Option Go.Addr) (root : Int) (key_A : Option Go.Addr)
 (key_n key_c : Nat) (atx : Bool) (w : Go.World) (K : Go.Value → Go.World → Prop) => Go.Sx.CallsV Go.Proofs.Try.prog (45 : Nat) #[Go.Value.pointer a, Go.Value.int Go.IntKind.i64 root] w fun (v :
 Go.Value) (w' : Go.World) => ∃ (x : Int), ∃ (x_1 : Int), v = Go.Value.tuple #[Go.Value.int Go.IntKind.i64 x, Go.Value.int Go.IntKind.i64 x_1] ∧ bif !Decidable.decide (x_1 = (0 : Int)) then K
 (Go.Value.tuple #[Go.Value.slice Option.none (0 : Nat) (0 : Nat), Go.Value.slice Option.none (0 : Nat) (0 : Nat), Go.Value.bool Bool.false]) w' else ∃ (a_1 : Go.Addr), a = Option.some a_1 ∧ ∃ (x_2 :
 Option Go.Addr), ∃ (x_3 : Nat), ∃ (x_4 : Nat), Go.World.cell? w' (Go.Addr.add a_1 (2 : Nat)) = Option.some (Go.Value.slice x_2 x_3 x_4) ∧ ∃ (ad : Go.Addr), x_2 = Option.some ad ∧ ((0 : Int) ≤ x ∧ x <
 (↑x_3 : Int)) ∧ ∃ (x_5 : Option Go.Addr), Go.World.cell? w' (Go.Addr.add ad (Int.toNat x * (1 : Nat))) = Option.some (Go.Value.pointer x_5) ∧ ∃ (I : Option Go.Addr → Int → Go.World → Prop), ∃ (μ :
 Option Go.Addr → Int → Go.World → Nat), I x_5 (-1 : Int) w' ∧ ∀ (x : Option Go.Addr) (x_6 : Int) (w : Go.World), I x x_6 w → ∃ (a_3 : Go.Addr), x = Option.some a_3 ∧ ∃ (x_7 : Option Go.Addr), ∃ (x_8 :
 Nat), ∃ (x_9 : Nat), Go.World.cell? w (Go.Addr.add a_3 (2 : Nat)) = Option.some (Go.Value.slice x_7 x_8 x_9) ∧ bif !Option.isNone x_7 then Go.Sx.CallsV Go.Proofs.Try.prog (56 : Nat) #[Go.Value.pointer
 x, Go.Value.slice key_A key_n key_c] w fun (v : Go.Value) (w' : Go.World) => ∃ (x_10 : Int), v = Go.Value.int Go.IntKind.i64 x_10 ∧ ∃ (a_4 : Go.Addr), x = Option.some a_4 ∧ ∃ (x_11 : Option Go.Addr), ∃
 (x_12 : Nat), ∃ (x_13 : Nat), Go.World.cell? w' (Go.Addr.add a_4 (2 : Nat)) = Option.some (Go.Value.slice x_11 x_12 x_13) ∧ bif Decidable.decide (Go.IntKind.wrap Go.IntKind.i64 (x_10 + (1 : Int)) <
 (↑x_12 : Int)) then ∃ (a_5 : Go.Addr), x = Option.some a_5 ∧ ∃ (x_14 : Option Go.Addr), ∃ (x_15 : Nat), ∃ (x_16 : Nat), Go.World.cell? w' (Go.Addr.add a_5 (2 : Nat)) = Option.some (Go.Value.slice x_14
 x_15 x_16) ∧ ∃ (ad : Go.Addr), x_14 = Option.some ad ∧ ((0 : Int) ≤ Go.IntKind.wrap Go.IntKind.i64 (x_10 + (1 : Int)) ∧ Go.IntKind.wrap Go.IntKind.i64 (x_10 + (1 : Int)) < (↑x_15 : Int)) ∧ ∃ (x_17 :
 Int), Go.World.cell? w' (Go.Addr.add ad (Int.toNat (Go.IntKind.wrap Go.IntKind.i64 (x_10 + (1 : Int))) * (1 : Nat))) = Option.some (Go.Value.int Go.IntKind.i64 x_17) ∧ ∃ (a_6 : Go.Addr), a =
 Option.some a_6 ∧ ∃ (S : Go.World → Prop), S (Go.World.drew w') ∧ ∃ (x_18 : Option Go.Addr), ∃ (x_19 : Nat), ∃ (x_20 : Nat), (∀ (u : Go.World), S u → Go.World.cell? u (Go.Addr.add a_6 (2 : Nat)) =
 Option.some (Go.Value.slice x_18 x_19 x_20)) ∧ ∃ (a : Go.Addr), x = Option.some a ∧ ∃ (x_21 : Option Go.Addr), ∃ (x_22 : Nat), ∃ (x_23 : Nat), (∀ (u : Go.World), S u → Go.World.cell? u (Go.Addr.add a
 (2 : Nat)) = Option.some (Go.Value.slice x_21 x_22 x_23)) ∧ ∃ (ad : Go.Addr), x_21 = Option.some ad ∧ ((0 : Int) ≤ x_10 ∧ x_10 < (↑x_22 : Int)) ∧ ∃ (x_24 : Int), (∀ (u : Go.World), S u → Go.World.cell?
 u (Go.Addr.add ad (Int.toNat x_10 * (1 : Nat))) = Option.some (Go.Value.int Go.IntKind.i64 x_24)) ∧ ∃ (ad : Go.Addr), x_18 = Option.some ad ∧ ((0 : Int) ≤ x_24 ∧ x_24 < (↑x_19 : Int)) ∧ ∃ (x_25 :
 Option Go.Addr), (∀ (u : Go.World), S u → Go.World.cell? u (Go.Addr.add ad (Int.toNat x_24 * (1 : Nat))) = Option.some (Go.Value.pointer x_25)) ∧ I x_25 x_17 (Go.World.drew w') ∧ μ x_25 x_17
 (Go.World.drew w') < μ x x_6 w else ∃ (a_5 : Go.Addr), a = Option.some a_5 ∧ ∃ (S : Go.World → Prop), S (Go.World.drew w') ∧ ∃ (x_14 : Option Go.Addr), ∃ (x_15 : Nat), ∃ (x_16 : Nat), (∀ (u :
 Go.World), S u → Go.World.cell? u (Go.Addr.add a_5 (2 : Nat)) = Option.some (Go.Value.slice x_14 x_15 x_16)) ∧ ∃ (a : Go.Addr), x = Option.some a ∧ ∃ (x_17 : Option Go.Addr), ∃ (x_18 : Nat), ∃ (x_19 :
 Nat), (∀ (u : Go.World), S u → Go.World.cell? u (Go.Addr.add a (2 : Nat)) = Option.some (Go.Value.slice x_17 x_18 x_19)) ∧ ∃ (ad : Go.Addr), x_17 = Option.some ad ∧ ((0 : Int) ≤ x_10 ∧ x_10 < (↑x_18 :
 Int)) ∧ ∃ (x_20 : Int), (∀ (u : Go.World), S u → Go.World.cell? u (Go.Addr.add ad (Int.toNat x_10 * (1 : Nat))) = Option.some (Go.Value.int Go.IntKind.i64 x_20)) ∧ ∃ (ad : Go.Addr), x_14 = Option.some
 ad ∧ ((0 : Int) ≤ x_20 ∧ x_20 < (↑x_15 : Int)) ∧ ∃ (x_21 : Option Go.Addr), (∀ (u : Go.World), S u → Go.World.cell? u (Go.Addr.add ad (Int.toNat x_20 * (1 : Nat))) = Option.some (Go.Value.pointer
 x_21)) ∧ I x_21 x_6 (Go.World.drew w') ∧ μ x_21 x_6 (Go.World.drew w') < μ x x_6 w else ∃ (a_4 : Go.Addr), x = Option.some a_4 ∧ ∃ (x_10 : Option Go.Addr), ∃ (x_11 : Nat), ∃ (x_12 : Nat),
 Go.World.cell? w (Go.Addr.add a_4 (0 : Nat)) = Option.some (Go.Value.slice x_10 x_11 x_12) ∧ Go.Sx.CallsV Go.Proofs.Try.prog (47 : Nat) #[Go.Value.slice x_10 x_11 x_12, Go.Value.slice key_A key_n
 key_c, Go.Value.func (Go.Fn.func (48 : Nat)) #[] #[]] w fun (v : Go.Value) (w' : Go.World) => ∃ (x_13 : Int), ∃ (x_14 : Bool), v = Go.Value.tuple #[Go.Value.int Go.IntKind.i64 x_13, Go.Value.bool x_14]
 ∧ ∃ (J : Int → Go.World → Prop), (∀ (x_15 : Int) (w : Go.World), J x_15 w → ∃ (a_6 : Go.Addr), x = Option.some a_6 ∧ ∃ (x_16 : Option Go.Addr), ∃ (x_17 : Nat), ∃ (x_18 : Nat), Go.World.cell? w
 (Go.Addr.add a_6 (0 : Nat)) = Option.some (Go.Value.slice x_16 x_17 x_18) ∧ bif Decidable.decide (x_15 < (↑x_17 : Int)) then Go.Sx.CallsV Go.Proofs.Try.prog (57 : Nat) #[Go.Value.pointer x,
 Go.Value.int Go.IntKind.i64 x_15] w fun (v : Go.Value) (w' : Go.World) => ∃ (x : Option Go.Addr), ∃ (x_19 : Nat), ∃ (x_20 : Nat), ∃ (x_21 : Option Go.Addr), ∃ (x_22 : Nat), ∃ (x_23 : Nat), ∃ (x_24 :
 Bool), v = Go.Value.tuple #[Go.Value.slice x x_19 x_20, Go.Value.slice x_21 x_22 x_23, Go.Value.bool x_24] ∧ K (Go.Value.tuple #[Go.Value.slice x x_19 x_20, Go.Value.slice x_21 x_22 x_23, Go.Value.bool
 x_24]) w' else bif Decidable.decide (x_6 < (0 : Int)) then Go.Sx.CallsV Go.Proofs.Try.prog (57 : Nat) #[Go.Value.pointer x, Go.Value.int Go.IntKind.i64 x_15] w fun (v : Go.Value) (w' : Go.World) => ∃
 (x : Option Go.Addr), ∃ (x_19 : Nat), ∃ (x_20 : Nat), ∃ (x_21 : Option Go.Addr), ∃ (x_22 : Nat), ∃ (x_23 : Nat), ∃ (x_24 : Bool), v = Go.Value.tuple #[Go.Value.slice x x_19 x_20, Go.Value.slice x_21
 x_22 x_23, Go.Value.bool x_24] ∧ K (Go.Value.tuple #[Go.Value.slice x x_19 x_20, Go.Value.slice x_21 x_22 x_23, Go.Value.bool x_24]) w' else ∃ (a_7 : Go.Addr), a = Option.some a_7 ∧ ∃ (x : Option
 Go.Addr), ∃ (x_19 : Nat), ∃ (x_20 : Nat), Go.World.cell? w (Go.Addr.add a_7 (2 : Nat)) = Option.some (Go.Value.slice x x_19 x_20) ∧ ∃ (ad : Go.Addr), x = Option.some ad ∧ ((0 : Int) ≤ x_6 ∧ x_6 <
 (↑x_19 : Int)) ∧ ∃ (x : Option Go.Addr), Go.World.cell? w (Go.Addr.add ad (Int.toNat x_6 * (1 : Nat))) = Option.some (Go.Value.pointer x) ∧ ∃ (I : Option Go.Addr → Go.World → Prop), ∃ (μ : Option
 Go.Addr → Go.World → Nat), I x w ∧ ∀ (x : Option Go.Addr) (w : Go.World), I x w → ∃ (a_9 : Go.Addr), x = Option.some a_9 ∧ ∃ (x_21 : Option Go.Addr), ∃ (x_22 : Nat), ∃ (x_23 : Nat), Go.World.cell? w
 (Go.Addr.add a_9 (2 : Nat)) = Option.some (Go.Value.slice x_21 x_22 x_23) ∧ bif !Option.isNone x_21 then ∃ (a_10 : Go.Addr), a = Option.some a_10 ∧ ∃ (S : Go.World → Prop), S (Go.World.drew w) ∧ ∃
 (x_24 : Option Go.Addr), ∃ (x_25 : Nat), ∃ (x_26 : Nat), (∀ (u : Go.World), S u → Go.World.cell? u (Go.Addr.add a_10 (2 : Nat)) = Option.some (Go.Value.slice x_24 x_25 x_26)) ∧ ∃ (a : Go.Addr), x =
 Option.some a ∧ ∃ (x_27 : Option Go.Addr), ∃ (x_28 : Nat), ∃ (x_29 : Nat), (∀ (u : Go.World), S u → Go.World.cell? u (Go.Addr.add a (2 : Nat)) = Option.some (Go.Value.slice x_27 x_28 x_29)) ∧ ∃ (ad :
 Go.Addr), x_27 = Option.some ad ∧ ((0 : Int) ≤ (0 : Int) ∧ (0 : Int) < (↑x_28 : Int)) ∧ ∃ (x_30 : Int), (∀ (u : Go.World), S u → Go.World.cell? u (Go.Addr.add ad (Int.toNat (0 : Int) * (1 : Nat))) =
 Option.some (Go.Value.int Go.IntKind.i64 x_30)) ∧ ∃ (ad : Go.Addr), x_24 = Option.some ad ∧ ((0 : Int) ≤ x_30 ∧ x_30 < (↑x_25 : Int)) ∧ ∃ (x_31 : Option Go.Addr), (∀ (u : Go.World), S u →
 Go.World.cell? u (Go.Addr.add ad (Int.toNat x_30 * (1 : Nat))) = Option.some (Go.Value.pointer x_31)) ∧ I x_31 (Go.World.drew w) ∧ μ x_31 (Go.World.drew w) < μ x w else Go.Sx.CallsV Go.Proofs.Try.prog
 (57 : Nat) #[Go.Value.pointer x, Go.Value.int Go.IntKind.i64 (0 : Int)] w fun (v : Go.Value) (w' : Go.World) => ∃ (x : Option Go.Addr), ∃ (x_24 : Nat), ∃ (x_25 : Nat), ∃ (x_26 : Option Go.Addr), ∃
 (x_27 : Nat), ∃ (x_28 : Nat), ∃ (x_29 : Bool), v = Go.Value.tuple #[Go.Value.slice x x_24 x_25, Go.Value.slice x_26 x_27 x_28, Go.Value.bool x_29] ∧ K (Go.Value.tuple #[Go.Value.slice x x_24 x_25,
 Go.Value.slice x_26 x_27 x_28, Go.Value.bool x_29]) w') ∧ bif x_14 then bif !atx then J (Go.IntKind.wrap Go.IntKind.i64 (x_13 + (1 : Int))) w' else J x_13 w' else J x_13 w'
theorem tree_Arena_After.eq (a : Option Addr) (root : Int) (key_A : Option Addr) (key_n : Nat) (key_c : Nat) (atx : Bool) (w : World) (K : Value → World → Prop) : tree_Arena_After.W a root key_A key_n key_c atx w K = fnW Try.prog Try.f24 (.named (.seq .auto (.seq .auto (.seq .auto (.seq .auto (.seq .auto (.seq (.block (.loop [(13, .one .ptr), (14, .one (.int .i64))] .auto)) (.seq .auto (.join [(16, .one (.int .i64))] .auto (.seq .auto (.seq (.seq .auto (.block (.loop [(13, .one .ptr)] .auto))) .auto))))))))))) [.pointer a, .int .i64 root, .slice key_A key_n key_c, .bool atx] w K := by kernel_rfl
theorem tree_Arena_After.calls (ok : Okay Try.prog) {a : Option Addr} {root : Int} {key_A : Option Addr} {key_n : Nat} {key_c : Nat} {atx : Bool} {w : World} {K : Value → World → Prop} (h : tree_Arena_After.W a root key_A key_n key_c atx w K) : CallsV Try.prog 24 #[.pointer a, .int .i64 root, .slice key_A key_n key_c, .bool atx] w K :=
  fnW_calls ok Try.func24 (an := (.named (.seq .auto (.seq .auto (.seq .auto (.seq .auto (.seq .auto (.seq (.block (.loop [(13, .one .ptr), (14, .one (.int .i64))] .auto)) (.seq .auto (.join [(16, .one (.int .i64))] .auto (.seq .auto (.seq (.seq .auto (.block (.loop [(13, .one .ptr)] .auto))) .auto)))))))))))) (args := [.pointer a, .int .i64 root, .slice key_A key_n key_c, .bool atx]) (by rw [← tree_Arena_After.eq]; exact h)
noncomputable def tree_Arena_Last.W : Option Addr → Int → World → (Value → World → Prop) → Prop := fun (a : Option Go.Addr) (root : Int) (w : Go.World) (K : Go.Value → Go.World → Prop) => Go.Sx.CallsV
 Go.Proofs.Try.prog (45 : Nat) #[Go.Value.pointer a, Go.Value.int Go.IntKind.i64 root] w fun (v : Go.Value) (w' : Go.World) => ∃ (x : Int), ∃ (x_1 : Int), v = Go.Value.tuple #[Go.Value.int
 Go.IntKind.i64 x, Go.Value.int Go.IntKind.i64 x_1] ∧ bif !Decidable.decide (x_1 = (0 : Int)) then K (Go.Value.tuple #[Go.Value.slice Option.none (0 : Nat) (0 : Nat), Go.Value.slice Option.none (0 :
 Nat) (0 : Nat), Go.Value.bool Bool.false]) w' else Go.Sx.CallsV Go.Proofs.Try.prog (58 : Nat) #[Go.Value.pointer a, Go.Value.int Go.IntKind.i64 x] w' fun (v : Go.Value) (w' : Go.World) => ∃ (x : Option
 Go.Addr), v = Go.Value.pointer x ∧ ∃ (a : Go.Addr), x = Option.some a ∧ ∃ (x_2 : Option Go.Addr), ∃ (x_3 : Nat), ∃ (x_4 : Nat), Go.World.cell? w' (Go.Addr.add a (0 : Nat)) = Option.some (Go.Value.slice
 x_2 x_3 x_4) ∧ Go.Sx.CallsV Go.Proofs.Try.prog (57 : Nat) #[Go.Value.pointer x, Go.Value.int Go.IntKind.i64 (Go.IntKind.wrap Go.IntKind.i64 ((↑x_3 : Int) - (1 : Int)))] w' fun (v : Go.Value) (w' :
 Go.World) => ∃ (x : Option Go.Addr), ∃ (x_5 : Nat), ∃ (x_6 : Nat), ∃ (x_7 : Option Go.Addr), ∃ (x_8 : Nat), ∃ (x_9 : Nat), ∃ (x_10 : Bool), v = Go.Value.tuple #[Go.Value.slice x x_5 x_6, Go.Value.slice
 x_7 x_8 x_9, Go.Value.bool x_10] ∧ K (Go.Value.tuple #[Go.Value.slice x x_5 x_6, Go.Value.slice x_7 x_8 x_9, Go.Value.bool x_10]) w'
theorem tree_Arena_Last.eq (a : Option Addr) (root : Int) (w : World) (K : Value → World → Prop) : tree_Arena_Last.W a root w K = fnW Try.prog Try.f25 (.named .auto) [.pointer a, .int .i64 root] w K := by kernel_rfl
theorem tree_Arena_Last.calls (ok : Okay Try.prog) {a : Option Addr} {root : Int} {w : World} {K : Value → World → Prop} (h : tree_Arena_Last.W a root w K) : CallsV Try.prog 25 #[.pointer a, .int .i64 root] w K :=
  fnW_calls ok Try.func25 (an := (.named .auto)) (args := [.pointer a, .int .i64 root]) (by rw [← tree_Arena_Last.eq]; exact h)
noncomputable def tree_Arena_Delete.W : Option Addr → Int → Option Addr → Nat → Nat → World → (Value → World → Prop) → Prop := fun (a : Option Go.Addr) (root : Int) (key_A : Option Go.Addr) (key_n
 key_c : Nat) (w : Go.World) (K : Go.Value → Go.World → Prop) => Go.Sx.CallsV Go.Proofs.Try.prog (45 : Nat) #[Go.Value.pointer a, Go.Value.int Go.IntKind.i64 root] w fun (v : Go.Value) (w' : Go.World)
 => ∃ (x : Int), ∃ (x_1 : Int), v = Go.Value.tuple #[Go.Value.int Go.IntKind.i64 x, Go.Value.int Go.IntKind.i64 x_1] ∧ bif !Decidable.decide (x_1 = (0 : Int)) then K (Go.Value.tuple #[Go.Value.bool
 Bool.false, Go.Value.int Go.IntKind.i64 x_1]) w' else Go.Sx.CallsV Go.Proofs.Try.prog (46 : Nat) #[Go.Value.pointer a, Go.Value.int Go.IntKind.i64 x, Go.Value.slice key_A key_n key_c] w' fun (v :
 Go.Value) (w' : Go.World) => ∃ (x_2 : Option Go.Addr), ∃ (x_3 : Option Go.Addr), ∃ (x_4 : Nat), ∃ (x_5 : Nat), v = Go.Value.tuple #[Go.Value.pointer x_2, Go.Value.slice x_3 x_4 x_5] ∧ ∃ (a_1 :
 Go.Addr), x_2 = Option.some a_1 ∧ ∃ (x_6 : Option Go.Addr), ∃ (x_7 : Nat), ∃ (x_8 : Nat), Go.World.cell? w' (Go.Addr.add a_1 (0 : Nat)) = Option.some (Go.Value.slice x_6 x_7 x_8) ∧ Go.Sx.CallsV
 Go.Proofs.Try.prog (47 : Nat) #[Go.Value.slice x_6 x_7 x_8, Go.Value.slice key_A key_n key_c, Go.Value.func (Go.Fn.func (48 : Nat)) #[] #[]] w' fun (v : Go.Value) (w' : Go.World) => ∃ (x_9 : Int), ∃
 (x_10 : Bool), v = Go.Value.tuple #[Go.Value.int Go.IntKind.i64 x_9, Go.Value.bool x_10] ∧ bif !x_10 then K (Go.Value.tuple #[Go.Value.bool Bool.false, Go.Value.int Go.IntKind.i64 (0 : Int)]) w' else
 Go.Sx.CallsV Go.Proofs.Try.prog (59 : Nat) #[Go.Value.pointer a, Go.Value.int Go.IntKind.i64 x, Go.Value.slice key_A key_n key_c] w' fun (v : Go.Value) (w' : Go.World) => v = Go.Value.tuple #[] ∧ ∃
 (a_2 : Go.Addr), a = Option.some a_2 ∧ ∃ (x_11 : Option Go.Addr), ∃ (x_12 : Nat), ∃ (x_13 : Nat), Go.World.cell? w' (Go.Addr.add a_2 (2 : Nat)) = Option.some (Go.Value.slice x_11 x_12 x_13) ∧ ∃ (ad :
 Go.Addr), x_11 = Option.some ad ∧ ((0 : Int) ≤ x ∧ x < (↑x_12 : Int)) ∧ ∃ (x_14 : Option Go.Addr), Go.World.cell? w' (Go.Addr.add ad (Int.toNat x * (1 : Nat))) = Option.some (Go.Value.pointer x_14) ∧ ∃
 (a_3 : Go.Addr), x_14 = Option.some a_3 ∧ ∃ (x_15 : Option Go.Addr), ∃ (x_16 : Nat), ∃ (x_17 : Nat), Go.World.cell? w' (Go.Addr.add a_3 (2 : Nat)) = Option.some (Go.Value.slice x_15 x_16 x_17) ∧ bif
 Decidable.decide ((↑x_16 : Int) = (1 : Int)) then ∃ (a_4 : Go.Addr), a = Option.some a_4 ∧ ∃ (S : Go.World → Prop), S (Go.World.drew w') ∧ ∃ (x_18 : Option Go.Addr), ∃ (x_19 : Nat), ∃ (x_20 : Nat), (∀
 (u : Go.World), S u → Go.World.cell? u (Go.Addr.add a_4 (2 : Nat)) = Option.some (Go.Value.slice x_18 x_19 x_20)) ∧ ∃ (a_5 : Go.Addr), a = Option.some a_5 ∧ ∃ (x_21 : Option Go.Addr), ∃ (x_22 : Nat), ∃
 (x_23 : Nat), (∀ (u : Go.World), S u → Go.World.cell? u (Go.Addr.add a_5 (2 : Nat)) = Option.some (Go.Value.slice x_21 x_22 x_23)) ∧ ∃ (a_6 : Go.Addr), x_14 = Option.some a_6 ∧ ∃ (x_24 : Option
 Go.Addr), ∃ (x_25 : Nat), ∃ (x_26 : Nat), (∀ (u : Go.World), S u → Go.World.cell? u (Go.Addr.add a_6 (2 : Nat)) = Option.some (Go.Value.slice x_24 x_25 x_26)) ∧ ∃ (ad : Go.Addr), x_24 = Option.some ad
 ∧ ((0 : Int) ≤ (0 : Int) ∧ (0 : Int) < (↑x_25 : Int)) ∧ ∃ (x_27 : Int), (∀ (u : Go.World), S u → Go.World.cell? u (Go.Addr.add ad (Int.toNat (0 : Int) * (1 : Nat))) = Option.some (Go.Value.int
 Go.IntKind.i64 x_27)) ∧ ∃ (ad : Go.Addr), x_21 = Option.some ad ∧ ((0 : Int) ≤ x_27 ∧ x_27 < (↑x_22 : Int)) ∧ ∃ (x_28 : Option Go.Addr), (∀ (u : Go.World), S u → Go.World.cell? u (Go.Addr.add ad
 (Int.toNat x_27 * (1 : Nat))) = Option.some (Go.Value.pointer x_28)) ∧ ∃ (ad : Go.Addr), x_18 = Option.some ad ∧ ((0 : Int) ≤ x ∧ x < (↑x_19 : Int)) ∧ Go.Sx.stOK (Go.Addr.add ad (Int.toNat x * (1 :
 Nat))) (0 : Nat) [Go.Value.pointer x_28] (Go.World.drew w') ∧ ∀ (w'_1 : Go.World), w'_1 = Go.Sx.setAll (Go.Addr.add ad (Int.toNat x * (1 : Nat))) (0 : Nat) [Go.Value.pointer x_28] (Go.World.drew w') →
 ∃ (a_8 : Go.Addr), x_14 = Option.some a_8 ∧ ∃ (x : Option Go.Addr), ∃ (x_29 : Nat), ∃ (x_30 : Nat), Go.World.cell? w'_1 (Go.Addr.add a_8 (2 : Nat)) = Option.some (Go.Value.slice x x_29 x_30) ∧ ∃ (ad :
 Go.Addr), x = Option.some ad ∧ ((0 : Int) ≤ (0 : Int) ∧ (0 : Int) < (↑x_29 : Int)) ∧ ∃ (x : Int), Go.World.cell? w'_1 (Go.Addr.add ad (Int.toNat (0 : Int) * (1 : Nat))) = Option.some (Go.Value.int
 Go.IntKind.i64 x) ∧ Go.Sx.CallsV Go.Proofs.Try.prog (60 : Nat) #[Go.Value.pointer a, Go.Value.int Go.IntKind.i64 x] w'_1 fun (v : Go.Value) (w' : Go.World) => v = Go.Value.tuple #[] ∧ K (Go.Value.tuple
 #[Go.Value.bool Bool.true, Go.Value.int Go.IntKind.i64 (0 : Int)]) w' else K (Go.Value.tuple #[Go.Value.bool Bool.true, Go.Value.int Go.IntKind.i64 (0 : Int)]) w'
theorem tree_Arena_Delete.eq (a : Option Addr) (root : Int) (key_A : Option Addr) (key_n : Nat) (key_c : Nat) (w : World) (K : Value → World → Prop) : tree_Arena_Delete.W a root key_A key_n key_c w K = fnW Try.prog Try.f29 (.named .auto) [.pointer a, .int .i64 root, .slice key_A key_n key_c] w K := by kernel_rfl
theorem tree_Arena_Delete.calls (ok : Okay Try.prog) {a : Option Addr} {root : Int} {key_A : Option Addr} {key_n : Nat} {key_c : Nat} {w : World} {K : Value → World → Prop} (h : tree_Arena_Delete.W a root key_A key_n key_c w K) : CallsV Try.prog 29 #[.pointer a, .int .i64 root, .slice key_A key_n key_c] w K :=
  fnW_calls ok Try.func29 (an := (.named .auto)) (args := [.pointer a, .int .i64 root, .slice key_A key_n key_c]) (by rw [← tree_Arena_Delete.eq]; exact h)
noncomputable def tree_Arena_Drop.W : Option Addr → Int → World → (Value → World → Prop) → Prop := fun (a : Option Go.Addr) (root : Int) (w : Go.World) (K : Go.Value → Go.World → Prop) => Go.Sx.CallsV
 Go.Proofs.Try.prog (45 : Nat) #[Go.Value.pointer a, Go.Value.int Go.IntKind.i64 root] w fun (v : Go.Value) (w' : Go.World) => ∃ (x : Int), ∃ (x_1 : Int), v = Go.Value.tuple #[Go.Value.int
 Go.IntKind.i64 x, Go.Value.int Go.IntKind.i64 x_1] ∧ bif !Decidable.decide (x_1 = (0 : Int)) then K (Go.Value.int Go.IntKind.i64 x_1) w' else Go.Sx.CallsV Go.Proofs.Try.prog (53 : Nat)
 #[Go.Value.pointer a, Go.Value.int Go.IntKind.i64 x] w' fun (v : Go.Value) (w' : Go.World) => ∃ (x : Go.Value), v = x ∧ Go.Sx.CallsV Go.Proofs.Try.prog (61 : Nat) #[x] w' fun (v : Go.Value) (w' :
 Go.World) => ∃ (x : Option Go.Addr), ∃ (x_2 : Nat), ∃ (x_3 : Nat), v = Go.Value.slice x x_2 x_3 ∧ ∃ (I : Int → Go.World → Prop), ∃ (μ : Int → Go.World → Nat), I (0 : Int) w' ∧ ∀ (x_4 : Int) (w :
 Go.World), I x_4 w → bif Decidable.decide (x_4 < (↑x_2 : Int)) then ∃ (ad : Go.Addr), x = Option.some ad ∧ ((0 : Int) ≤ x_4 ∧ x_4 < (↑x_2 : Int)) ∧ ∃ (x : Int), Go.World.cell? w (Go.Addr.add ad
 (Int.toNat x_4 * (1 : Nat))) = Option.some (Go.Value.int Go.IntKind.i64 x) ∧ Go.Sx.CallsV Go.Proofs.Try.prog (60 : Nat) #[Go.Value.pointer a, Go.Value.int Go.IntKind.i64 x] w fun (v : Go.Value) (w' :
 Go.World) => v = Go.Value.tuple #[] ∧ I (Go.IntKind.wrap Go.IntKind.i64 (x_4 + (1 : Int))) w' ∧ μ (Go.IntKind.wrap Go.IntKind.i64 (x_4 + (1 : Int))) w' < μ x_4 w else ∃ (a_2 : Go.Addr), a = Option.some
 a_2 ∧ ∃ (x : Option Nat), Go.World.cell? w (Go.Addr.add a_2 (4 : Nat)) = Option.some (Go.Value.map x) ∧ ∃ (w' : Go.World), Go.Sx.RunsTo Go.Proofs.Try.prog (Go.Builtin.delete_ (Array.mk [(30 : Nat), (3
 : Nat)]) (0 : Nat) #[Go.Value.map x, Go.Value.int Go.IntKind.i64 root]) w (Go.Value.tuple #[]) w' ∧ K (Go.Value.int Go.IntKind.i64 (0 : Int)) w'
theorem tree_Arena_Drop.eq (a : Option Addr) (root : Int) (w : World) (K : Value → World → Prop) : tree_Arena_Drop.W a root w K = fnW Try.prog Try.f30 (.named (.seq .auto (.seq .auto (.seq .auto (.seq (.seq .auto (.block (.loop [(23, .one (.int .i64))] .auto))) .auto))))) [.pointer a, .int .i64 root] w K := by kernel_rfl
theorem tree_Arena_Drop.calls (ok : Okay Try.prog) {a : Option Addr} {root : Int} {w : World} {K : Value → World → Prop} (h : tree_Arena_Drop.W a root w K) : CallsV Try.prog 30 #[.pointer a, .int .i64 root] w K :=
  fnW_calls ok Try.func30 (an := (.named (.seq .auto (.seq .auto (.seq .auto (.seq (.seq .auto (.block (.loop [(23, .one (.int .i64))] .auto))) .auto)))))) (args := [.pointer a, .int .i64 root]) (by rw [← tree_Arena_Drop.eq]; exact h)
noncomputable def tree_Arena_Save.W : Option Addr → World → (Value → World → Prop) → Prop := fun (a : Option Go.Addr) (w : Go.World) (K : Go.Value → Go.World → Prop) => Go.Sx.CallsV Go.Proofs.Try.prog
 (43 : Nat) #[Go.Value.pointer a] w fun (v : Go.Value) (w' : Go.World) => ∃ (x : Bool), v = Go.Value.bool x ∧ bif !x then K (Go.Value.pointer Option.none) w' else ∃ (a_1 : Go.Addr), a = Option.some a_1
 ∧ ∃ (S : Go.World → Prop), S (Go.World.drew w') ∧ ∃ (x : Option Go.Addr), ∃ (x_1 : Nat), ∃ (x_2 : Nat), (∀ (u : Go.World), S u → Go.World.cell? u (Go.Addr.add a_1 (2 : Nat)) = Option.some
 (Go.Value.slice x x_1 x_2)) ∧ ∃ (a_2 : Go.Addr), a = Option.some a_2 ∧ ∃ (x_3 : Option Go.Addr), ∃ (x_4 : Nat), ∃ (x_5 : Nat), (∀ (u : Go.World), S u → Go.World.cell? u (Go.Addr.add a_2 (3 : Nat)) =
 Option.some (Go.Value.slice x_3 x_4 x_5)) ∧ ∃ (a_3 : Go.Addr), a = Option.some a_3 ∧ ∃ (x_6 : Option Nat), (∀ (u : Go.World), S u → Go.World.cell? u (Go.Addr.add a_3 (4 : Nat)) = Option.some
 (Go.Value.map x_6)) ∧ ∃ (a_4 : Go.Addr), a = Option.some a_4 ∧ ∃ (x_7 : Int), (∀ (u : Go.World), S u → Go.World.cell? u (Go.Addr.add a_4 (5 : Nat)) = Option.some (Go.Value.int Go.IntKind.i64 x_7)) ∧
 Go.Sx.CallsV Go.Proofs.Try.prog (62 : Nat) #[Go.Value.slice x x_1 x_2] (Go.World.drew w') fun (v : Go.Value) (w' : Go.World) => ∃ (x : Option Go.Addr), ∃ (x_8 : Nat), ∃ (x_9 : Nat), v = Go.Value.slice
 x x_8 x_9 ∧ S w' ∧ Go.Sx.CallsV Go.Proofs.Try.prog (63 : Nat) #[Go.Value.slice x_3 x_4 x_5] w' fun (v : Go.Value) (w' : Go.World) => ∃ (x_10 : Option Go.Addr), ∃ (x_11 : Nat), ∃ (x_12 : Nat), v =
 Go.Value.slice x_10 x_11 x_12 ∧ S w' ∧ Go.Sx.CallsV Go.Proofs.Try.prog (64 : Nat) #[Go.Value.map x_6] w' fun (v : Go.Value) (w' : Go.World) => ∃ (x_13 : Option Nat), v = Go.Value.map x_13 ∧ S w' ∧ ∀ (g
 : Nat) (w'_1 : Go.World), Go.Sx.Fresh w' g w'_1 [Go.Value.pointer a, Go.Value.slice x x_8 x_9, Go.Value.slice x_10 x_11 x_12, Go.Value.map x_13, Go.Value.int Go.IntKind.i64 x_7] (63 : Nat) → S w'_1 ∧ K
 (Go.Value.pointer (Option.some (Go.Addr.mk g (0 : Nat) Option.none))) w'_1
theorem tree_Arena_Save.eq (a : Option Addr) (w : World) (K : Value → World → Prop) : tree_Arena_Save.W a w K = fnW Try.prog Try.f31 (.named .auto) [.pointer a] w K := by kernel_rfl
theorem tree_Arena_Save.calls (ok : Okay Try.prog) {a : Option Addr} {w : World} {K : Value → World → Prop} (h : tree_Arena_Save.W a w K) : CallsV Try.prog 31 #[.pointer a] w K :=
  fnW_calls ok Try.func31 (an := (.named .auto)) (args := [.pointer a]) (by rw [← tree_Arena_Save.eq]; exact h)
noncomputable def tree_Arena_Load.W : Option Addr → Option Addr → World → (Value → World → Prop) → Prop := fun (a s : Option Go.Addr) (w : Go.World) (K : Go.Value → Go.World → Prop) => Go.Sx.CallsV
 Go.Proofs.Try.prog (43 : Nat) #[Go.Value.pointer a] w fun (v : Go.Value) (w' : Go.World) => ∃ (x : Bool), v = Go.Value.bool x ∧ bif !x then K (Go.Value.int Go.IntKind.i64 (1 : Int)) w' else bif
 Option.isNone s then K (Go.Value.int Go.IntKind.i64 (2 : Int)) w' else ∃ (a_1 : Go.Addr), s = Option.some a_1 ∧ ∃ (x : Option Go.Addr), Go.World.cell? w' (Go.Addr.add a_1 (0 : Nat)) = Option.some
 (Go.Value.pointer x) ∧ ∃ (ad : Go.Addr), (x = Option.some ad ∧ a = Option.some ad) ∧ ∃ (a_2 : Go.Addr), s = Option.some a_2 ∧ ∃ (S : Go.World → Prop), S (Go.World.drew w') ∧ ∃ (x : Option Go.Addr), ∃
 (x_1 : Nat), ∃ (x_2 : Nat), (∀ (u : Go.World), S u → Go.World.cell? u (Go.Addr.add a_2 (1 : Nat)) = Option.some (Go.Value.slice x x_1 x_2)) ∧ ∃ (a_3 : Go.Addr), s = Option.some a_3 ∧ ∃ (x_3 : Option
 Go.Addr), ∃ (x_4 : Nat), ∃ (x_5 : Nat), (∀ (u : Go.World), S u → Go.World.cell? u (Go.Addr.add a_3 (2 : Nat)) = Option.some (Go.Value.slice x_3 x_4 x_5)) ∧ ∃ (a_4 : Go.Addr), s = Option.some a_4 ∧ ∃
 (x_6 : Option Nat), (∀ (u : Go.World), S u → Go.World.cell? u (Go.Addr.add a_4 (3 : Nat)) = Option.some (Go.Value.map x_6)) ∧ ∃ (a_5 : Go.Addr), s = Option.some a_5 ∧ ∃ (x_7 : Int), (∀ (u : Go.World),
 S u → Go.World.cell? u (Go.Addr.add a_5 (4 : Nat)) = Option.some (Go.Value.int Go.IntKind.i64 x_7)) ∧ Go.Sx.CallsV Go.Proofs.Try.prog (62 : Nat) #[Go.Value.slice x x_1 x_2] (Go.World.drew w') fun (v :
 Go.Value) (w' : Go.World) => ∃ (x : Option Go.Addr), ∃ (x_8 : Nat), ∃ (x_9 : Nat), v = Go.Value.slice x x_8 x_9 ∧ S w' ∧ Go.Sx.CallsV Go.Proofs.Try.prog (63 : Nat) #[Go.Value.slice x_3 x_4 x_5] w' fun
 (v : Go.Value) (w' : Go.World) => ∃ (x_10 : Option Go.Addr), ∃ (x_11 : Nat), ∃ (x_12 : Nat), v = Go.Value.slice x_10 x_11 x_12 ∧ S w' ∧ Go.Sx.CallsV Go.Proofs.Try.prog (64 : Nat) #[Go.Value.map x_6] w'
 fun (v : Go.Value) (w' : Go.World) => ∃ (x_13 : Option Nat), v = Go.Value.map x_13 ∧ S w' ∧ ∃ (a_6 : Go.Addr), a = Option.some a_6 ∧ Go.Sx.stOK (Go.Addr.add a_6 (2 : Nat)) (0 : Nat) [Go.Value.slice x
 x_8 x_9] w' ∧ ∀ (w'_1 : Go.World), w'_1 = Go.Sx.setAll (Go.Addr.add a_6 (2 : Nat)) (0 : Nat) [Go.Value.slice x x_8 x_9] w' → ∃ (a_8 : Go.Addr), a = Option.some a_8 ∧ Go.Sx.stOK (Go.Addr.add a_8 (3 :
 Nat)) (0 : Nat) [Go.Value.slice x_10 x_11 x_12] w'_1 ∧ ∀ (w' : Go.World), w' = Go.Sx.setAll (Go.Addr.add a_8 (3 : Nat)) (0 : Nat) [Go.Value.slice x_10 x_11 x_12] w'_1 → ∃ (a_10 : Go.Addr), a =
 Option.some a_10 ∧ Go.Sx.stOK (Go.Addr.add a_10 (4 : Nat)) (0 : Nat) [Go.Value.map x_13] w' ∧ ∀ (w'_2 : Go.World), w'_2 = Go.Sx.setAll (Go.Addr.add a_10 (4 : Nat)) (0 : Nat) [Go.Value.map x_13] w' → ∃
 (a_12 : Go.Addr), a = Option.some a_12 ∧ Go.Sx.stOK (Go.Addr.add a_12 (5 : Nat)) (0 : Nat) [Go.Value.int Go.IntKind.i64 x_7] w'_2 ∧ ∀ (w' : Go.World), w' = Go.Sx.setAll (Go.Addr.add a_12 (5 : Nat)) (0
 : Nat) [Go.Value.int Go.IntKind.i64 x_7] w'_2 → K (Go.Value.int Go.IntKind.i64 (0 : Int)) w'
theorem tree_Arena_Load.eq (a : Option Addr) (s : Option Addr) (w : World) (K : Value → World → Prop) : tree_Arena_Load.W a s w K = fnW Try.prog Try.f32 (.named .auto) [.pointer a, .pointer s] w K := by kernel_rfl
theorem tree_Arena_Load.calls (ok : Okay Try.prog) {a : Option Addr} {s : Option Addr} {w : World} {K : Value → World → Prop} (h : tree_Arena_Load.W a s w K) : CallsV Try.prog 32 #[.pointer a, .pointer s] w K :=
  fnW_calls ok Try.func32 (an := (.named .auto)) (args := [.pointer a, .pointer s]) (by rw [← tree_Arena_Load.eq]; exact h)
noncomputable def tree_Arena_Before.W : Option Addr → Int → Option Addr → Nat → Nat → Bool → World → (Value → World → Prop) → Prop := fun (a : Option Go.Addr) (root : Int) (key_A : Option Go.Addr)
 (key_n key_c : Nat) (atx : Bool) (w : Go.World) (K : Go.Value → Go.World → Prop) => Go.Sx.CallsV Go.Proofs.Try.prog (45 : Nat) #[Go.Value.pointer a, Go.Value.int Go.IntKind.i64 root] w fun (v :
 Go.Value) (w' : Go.World) => ∃ (x : Int), ∃ (x_1 : Int), v = Go.Value.tuple #[Go.Value.int Go.IntKind.i64 x, Go.Value.int Go.IntKind.i64 x_1] ∧ bif !Decidable.decide (x_1 = (0 : Int)) then K
 (Go.Value.tuple #[Go.Value.slice Option.none (0 : Nat) (0 : Nat), Go.Value.slice Option.none (0 : Nat) (0 : Nat), Go.Value.bool Bool.false]) w' else ∃ (a_1 : Go.Addr), a = Option.some a_1 ∧ ∃ (x_2 :
 Option Go.Addr), ∃ (x_3 : Nat), ∃ (x_4 : Nat), Go.World.cell? w' (Go.Addr.add a_1 (2 : Nat)) = Option.some (Go.Value.slice x_2 x_3 x_4) ∧ ∃ (ad : Go.Addr), x_2 = Option.some ad ∧ ((0 : Int) ≤ x ∧ x <
 (↑x_3 : Int)) ∧ ∃ (x_5 : Option Go.Addr), Go.World.cell? w' (Go.Addr.add ad (Int.toNat x * (1 : Nat))) = Option.some (Go.Value.pointer x_5) ∧ ∃ (I : Option Go.Addr → Int → Go.World → Prop), ∃ (μ :
 Option Go.Addr → Int → Go.World → Nat), I x_5 (-1 : Int) w' ∧ ∀ (x : Option Go.Addr) (x_6 : Int) (w : Go.World), I x x_6 w → ∃ (a_3 : Go.Addr), x = Option.some a_3 ∧ ∃ (x_7 : Option Go.Addr), ∃ (x_8 :
 Nat), ∃ (x_9 : Nat), Go.World.cell? w (Go.Addr.add a_3 (2 : Nat)) = Option.some (Go.Value.slice x_7 x_8 x_9) ∧ bif !Option.isNone x_7 then Go.Sx.CallsV Go.Proofs.Try.prog (56 : Nat) #[Go.Value.pointer
 x, Go.Value.slice key_A key_n key_c] w fun (v : Go.Value) (w' : Go.World) => ∃ (x_10 : Int), v = Go.Value.int Go.IntKind.i64 x_10 ∧ bif Decidable.decide ((0 : Int) < x_10) then ∃ (a_4 : Go.Addr), x =
 Option.some a_4 ∧ ∃ (x_11 : Option Go.Addr), ∃ (x_12 : Nat), ∃ (x_13 : Nat), Go.World.cell? w' (Go.Addr.add a_4 (2 : Nat)) = Option.some (Go.Value.slice x_11 x_12 x_13) ∧ ∃ (ad : Go.Addr), x_11 =
 Option.some ad ∧ ((0 : Int) ≤ Go.IntKind.wrap Go.IntKind.i64 (x_10 - (1 : Int)) ∧ Go.IntKind.wrap Go.IntKind.i64 (x_10 - (1 : Int)) < (↑x_12 : Int)) ∧ ∃ (x_14 : Int), Go.World.cell? w' (Go.Addr.add ad
 (Int.toNat (Go.IntKind.wrap Go.IntKind.i64 (x_10 - (1 : Int))) * (1 : Nat))) = Option.some (Go.Value.int Go.IntKind.i64 x_14) ∧ ∃ (a_5 : Go.Addr), a = Option.some a_5 ∧ ∃ (S : Go.World → Prop), S
 (Go.World.drew w') ∧ ∃ (x_15 : Option Go.Addr), ∃ (x_16 : Nat), ∃ (x_17 : Nat), (∀ (u : Go.World), S u → Go.World.cell? u (Go.Addr.add a_5 (2 : Nat)) = Option.some (Go.Value.slice x_15 x_16 x_17)) ∧ ∃
 (a : Go.Addr), x = Option.some a ∧ ∃ (x_18 : Option Go.Addr), ∃ (x_19 : Nat), ∃ (x_20 : Nat), (∀ (u : Go.World), S u → Go.World.cell? u (Go.Addr.add a (2 : Nat)) = Option.some (Go.Value.slice x_18 x_19
 x_20)) ∧ ∃ (ad : Go.Addr), x_18 = Option.some ad ∧ ((0 : Int) ≤ x_10 ∧ x_10 < (↑x_19 : Int)) ∧ ∃ (x_21 : Int), (∀ (u : Go.World), S u → Go.World.cell? u (Go.Addr.add ad (Int.toNat x_10 * (1 : Nat))) =
 Option.some (Go.Value.int Go.IntKind.i64 x_21)) ∧ ∃ (ad : Go.Addr), x_15 = Option.some ad ∧ ((0 : Int) ≤ x_21 ∧ x_21 < (↑x_16 : Int)) ∧ ∃ (x_22 : Option Go.Addr), (∀ (u : Go.World), S u →
 Go.World.cell? u (Go.Addr.add ad (Int.toNat x_21 * (1 : Nat))) = Option.some (Go.Value.pointer x_22)) ∧ I x_22 x_14 (Go.World.drew w') ∧ μ x_22 x_14 (Go.World.drew w') < μ x x_6 w else ∃ (a_4 :
 Go.Addr), a = Option.some a_4 ∧ ∃ (S : Go.World → Prop), S (Go.World.drew w') ∧ ∃ (x_11 : Option Go.Addr), ∃ (x_12 : Nat), ∃ (x_13 : Nat), (∀ (u : Go.World), S u → Go.World.cell? u (Go.Addr.add a_4 (2
 : Nat)) = Option.some (Go.Value.slice x_11 x_12 x_13)) ∧ ∃ (a : Go.Addr), x = Option.some a ∧ ∃ (x_14 : Option Go.Addr), ∃ (x_15 : Nat), ∃ (x_16 : Nat), (∀ (u : Go.World), S u → Go.World.cell? u
 (Go.Addr.add a (2 : Nat)) = Option.some (Go.Value.slice x_14 x_15 x_16)) ∧ ∃ (ad : Go.Addr), x_14 = Option.some ad ∧ ((0 : Int) ≤ x_10 ∧ x_10 < (↑x_15 : Int)) ∧ ∃ (x_17 : Int), (∀ (u : Go.World), S u →
 Go.World.cell? u (Go.Addr.add ad (Int.toNat x_10 * (1 : Nat))) = Option.some (Go.Value.int Go.IntKind.i64 x_17)) ∧ ∃ (ad : Go.Addr), x_11 = Option.some ad ∧ ((0 : Int) ≤ x_17 ∧ x_17 < (↑x_12 : Int)) ∧
 ∃ (x_18 : Option Go.Addr), (∀ (u : Go.World), S u → Go.World.cell? u (Go.Addr.add ad (Int.toNat x_17 * (1 : Nat))) = Option.some (Go.Value.pointer x_18)) ∧ I x_18 x_6 (Go.World.drew w') ∧ μ x_18 x_6
 (Go.World.drew w') < μ x x_6 w else ∃ (a_4 : Go.Addr), x = Option.some a_4 ∧ ∃ (x_10 : Option Go.Addr), ∃ (x_11 : Nat), ∃ (x_12 : Nat), Go.World.cell? w (Go.Addr.add a_4 (0 : Nat)) = Option.some
 (Go.Value.slice x_10 x_11 x_12) ∧ Go.Sx.CallsV Go.Proofs.Try.prog (47 : Nat) #[Go.Value.slice x_10 x_11 x_12, Go.Value.slice key_A key_n key_c, Go.Value.func (Go.Fn.func (48 : Nat)) #[] #[]] w fun (v :
 Go.Value) (w' : Go.World) => ∃ (x_13 : Int), ∃ (x_14 : Bool), v = Go.Value.tuple #[Go.Value.int Go.IntKind.i64 x_13, Go.Value.bool x_14] ∧ ∃ (J : Int → Go.World → Prop), (∀ (x_15 : Int) (w : Go.World),
 J x_15 w → bif Decidable.decide ((0 : Int) ≤ x_15) then Go.Sx.CallsV Go.Proofs.Try.prog (57 : Nat) #[Go.Value.pointer x, Go.Value.int Go.IntKind.i64 x_15] w fun (v : Go.Value) (w' : Go.World) => ∃ (x :
 Option Go.Addr), ∃ (x_16 : Nat), ∃ (x_17 : Nat), ∃ (x_18 : Option Go.Addr), ∃ (x_19 : Nat), ∃ (x_20 : Nat), ∃ (x_21 : Bool), v = Go.Value.tuple #[Go.Value.slice x x_16 x_17, Go.Value.slice x_18 x_19
 x_20, Go.Value.bool x_21] ∧ K (Go.Value.tuple #[Go.Value.slice x x_16 x_17, Go.Value.slice x_18 x_19 x_20, Go.Value.bool x_21]) w' else bif Decidable.decide (x_6 < (0 : Int)) then Go.Sx.CallsV
 Go.Proofs.Try.prog (57 : Nat) #[Go.Value.pointer x, Go.Value.int Go.IntKind.i64 x_15] w fun (v : Go.Value) (w' : Go.World) => ∃ (x : Option Go.Addr), ∃ (x_16 : Nat), ∃ (x_17 : Nat), ∃ (x_18 : Option
 Go.Addr), ∃ (x_19 : Nat), ∃ (x_20 : Nat), ∃ (x_21 : Bool), v = Go.Value.tuple #[Go.Value.slice x x_16 x_17, Go.Value.slice x_18 x_19 x_20, Go.Value.bool x_21] ∧ K (Go.Value.tuple #[Go.Value.slice x
 x_16 x_17, Go.Value.slice x_18 x_19 x_20, Go.Value.bool x_21]) w' else Go.Sx.CallsV Go.Proofs.Try.prog (58 : Nat) #[Go.Value.pointer a, Go.Value.int Go.IntKind.i64 x_6] w fun (v : Go.Value) (w' :
 Go.World) => ∃ (x : Option Go.Addr), v = Go.Value.pointer x ∧ ∃ (a : Go.Addr), x = Option.some a ∧ ∃ (x_16 : Option Go.Addr), ∃ (x_17 : Nat), ∃ (x_18 : Nat), Go.World.cell? w' (Go.Addr.add a (0 : Nat))
 = Option.some (Go.Value.slice x_16 x_17 x_18) ∧ Go.Sx.CallsV Go.Proofs.Try.prog (57 : Nat) #[Go.Value.pointer x, Go.Value.int Go.IntKind.i64 (Go.IntKind.wrap Go.IntKind.i64 ((↑x_17 : Int) - (1 :
 Int)))] w' fun (v : Go.Value) (w' : Go.World) => ∃ (x : Option Go.Addr), ∃ (x_19 : Nat), ∃ (x_20 : Nat), ∃ (x_21 : Option Go.Addr), ∃ (x_22 : Nat), ∃ (x_23 : Nat), ∃ (x_24 : Bool), v = Go.Value.tuple
 #[Go.Value.slice x x_19 x_20, Go.Value.slice x_21 x_22 x_23, Go.Value.bool x_24] ∧ K (Go.Value.tuple #[Go.Value.slice x x_19 x_20, Go.Value.slice x_21 x_22 x_23, Go.Value.bool x_24]) w') ∧ bif !x_14
 then J (Go.IntKind.wrap Go.IntKind.i64 (x_13 - (1 : Int))) w' else bif !atx then J (Go.IntKind.wrap Go.IntKind.i64 (x_13 - (1 : Int))) w' else J x_13 w'
theorem tree_Arena_Before.eq (a : Option Addr) (root : Int) (key_A : Option Addr) (key_n : Nat) (key_c : Nat) (atx : Bool) (w : World) (K : Value → World → Prop) : tree_Arena_Before.W a root key_A key_n key_c atx w K = fnW Try.prog Try.f33 (.named (.seq .auto (.seq .auto (.seq .auto (.seq .auto (.seq .auto (.seq (.block (.loop [(13, .one .ptr), (14, .one (.int .i64))] .auto)) (.seq .auto (.join [(16, .one (.int .i64))] .auto .auto))))))))) [.pointer a, .int .i64 root, .slice key_A key_n key_c, .bool atx] w K := by kernel_rfl
theorem tree_Arena_Before.calls (ok : Okay Try.prog) {a : Option Addr} {root : Int} {key_A : Option Addr} {key_n : Nat} {key_c : Nat} {atx : Bool} {w : World} {K : Value → World → Prop} (h : tree_Arena_Before.W a root key_A key_n key_c atx w K) : CallsV Try.prog 33 #[.pointer a, .int .i64 root, .slice key_A key_n key_c, .bool atx] w K :=
  fnW_calls ok Try.func33 (an := (.named (.seq .auto (.seq .auto (.seq .auto (.seq .auto (.seq .auto (.seq (.block (.loop [(13, .one .ptr), (14, .one (.int .i64))] .auto)) (.seq .auto (.join [(16, .one (.int .i64))] .auto .auto)))))))))) (args := [.pointer a, .int .i64 root, .slice key_A key_n key_c, .bool atx]) (by rw [← tree_Arena_Before.eq]; exact h)
noncomputable def tree_Arena_made.W : Option Addr → World → (Value → World → Prop) → Prop := fun (a : Option Go.Addr) (w : Go.World) (K : Go.Value → Go.World → Prop) => bif !Option.isNone a then ∃ (a_1
 : Go.Addr), a = Option.some a_1 ∧ ∃ (x : Int), Go.World.cell? w (Go.Addr.add a_1 (0 : Nat)) = Option.some (Go.Value.int Go.IntKind.i64 x) ∧ K (Go.Value.bool (Decidable.decide ((0 : Int) < x))) w else K
 (Go.Value.bool Bool.false) w
theorem tree_Arena_made.eq (a : Option Addr) (w : World) (K : Value → World → Prop) : tree_Arena_made.W a w K = fnW Try.prog Try.f43 (.named .auto) [.pointer a] w K := by kernel_rfl
theorem tree_Arena_made.calls (ok : Okay Try.prog) {a : Option Addr} {w : World} {K : Value → World → Prop} (h : tree_Arena_made.W a w K) : CallsV Try.prog 43 #[.pointer a] w K :=
  fnW_calls ok Try.func43 (an := (.named .auto)) (args := [.pointer a]) (by rw [← tree_Arena_made.eq]; exact h)
noncomputable def tree_Arena_place.W : Option Addr → Option Addr → World → (Value → World → Prop) → Prop := fun (a n : Option Go.Addr) (w : Go.World) (K : Go.Value → Go.World → Prop) => ∃ (a_1 :
 Go.Addr), a = Option.some a_1 ∧ ∃ (x : Option Go.Addr), ∃ (x_1 : Nat), ∃ (x_2 : Nat), Go.World.cell? w (Go.Addr.add a_1 (3 : Nat)) = Option.some (Go.Value.slice x x_1 x_2) ∧ bif Decidable.decide ((0 :
 Int) < (↑x_1 : Int)) then ∃ (a_2 : Go.Addr), a = Option.some a_2 ∧ ∃ (x : Option Go.Addr), ∃ (x_3 : Nat), ∃ (x_4 : Nat), Go.World.cell? w (Go.Addr.add a_2 (3 : Nat)) = Option.some (Go.Value.slice x x_3
 x_4) ∧ ∃ (ad : Go.Addr), x = Option.some ad ∧ ((0 : Int) ≤ Go.IntKind.wrap Go.IntKind.i64 ((↑x_1 : Int) - (1 : Int)) ∧ Go.IntKind.wrap Go.IntKind.i64 ((↑x_1 : Int) - (1 : Int)) < (↑x_3 : Int)) ∧ ∃ (x :
 Int), Go.World.cell? w (Go.Addr.add ad (Int.toNat (Go.IntKind.wrap Go.IntKind.i64 ((↑x_1 : Int) - (1 : Int))) * (1 : Nat))) = Option.some (Go.Value.int Go.IntKind.i64 x) ∧ ∃ (a_3 : Go.Addr), a =
 Option.some a_3 ∧ ∃ (x_5 : Option Go.Addr), ∃ (x_6 : Nat), ∃ (x_7 : Nat), Go.World.cell? w (Go.Addr.add a_3 (3 : Nat)) = Option.some (Go.Value.slice x_5 x_6 x_7) ∧ ((0 : Int) ≤ Go.IntKind.wrap
 Go.IntKind.i64 ((↑x_1 : Int) - (1 : Int)) ∧ Go.IntKind.wrap Go.IntKind.i64 ((↑x_1 : Int) - (1 : Int)) ≤ (↑x_7 : Int)) ∧ ∃ (a_4 : Go.Addr), a = Option.some a_4 ∧ Go.Sx.stOK (Go.Addr.add a_4 (3 : Nat))
 (0 : Nat) [Go.Value.slice (Go.Sx.cutAt x_5 x_7 (0 : Nat) (1 : Nat)) (Int.toNat (Go.IntKind.wrap Go.IntKind.i64 ((↑x_1 : Int) - (1 : Int))) - (0 : Nat)) (x_7 - (0 : Nat))] w ∧ ∀ (w' : Go.World), w' =
 Go.Sx.setAll (Go.Addr.add a_4 (3 : Nat)) (0 : Nat) [Go.Value.slice (Go.Sx.cutAt x_5 x_7 (0 : Nat) (1 : Nat)) (Int.toNat (Go.IntKind.wrap Go.IntKind.i64 ((↑x_1 : Int) - (1 : Int))) - (0 : Nat)) (x_7 -
 (0 : Nat))] w → ∃ (a_6 : Go.Addr), a = Option.some a_6 ∧ ∃ (x_8 : Option Go.Addr), ∃ (x_9 : Nat), ∃ (x_10 : Nat), Go.World.cell? w' (Go.Addr.add a_6 (2 : Nat)) = Option.some (Go.Value.slice x_8 x_9
 x_10) ∧ ∃ (ad : Go.Addr), x_8 = Option.some ad ∧ ((0 : Int) ≤ x ∧ x < (↑x_9 : Int)) ∧ Go.Sx.stOK (Go.Addr.add ad (Int.toNat x * (1 : Nat))) (0 : Nat) [Go.Value.pointer n] w' ∧ ∀ (w'_1 : Go.World), w'_1
 = Go.Sx.setAll (Go.Addr.add ad (Int.toNat x * (1 : Nat))) (0 : Nat) [Go.Value.pointer n] w' → K (Go.Value.int Go.IntKind.i64 x) w'_1 else ∃ (a_2 : Go.Addr), a = Option.some a_2 ∧ ∃ (x : Option
 Go.Addr), ∃ (x_3 : Nat), ∃ (x_4 : Nat), Go.World.cell? w (Go.Addr.add a_2 (2 : Nat)) = Option.some (Go.Value.slice x x_3 x_4) ∧ ∀ (g : Nat) (w' : Go.World), Go.Sx.Fresh w g w' [Go.Value.pointer n] (89
 : Nat) → ∃ (x_5 : Option Go.Addr), ∃ (x_6 : Nat), ∃ (x_7 : Nat), ∃ (w'_1 : Go.World), Go.Sx.RunsTo Go.Proofs.Try.prog (Go.Builtin.append_ (Array.mk [(61 : Nat), (61 : Nat)]) (61 : Nat) #[Go.Value.slice
 x x_3 x_4, Go.Value.slice (Option.some (Go.Addr.mk g (0 : Nat) Option.none)) (1 : Nat) (1 : Nat)]) w' (Go.Value.slice x_5 x_6 x_7) w'_1 ∧ ∃ (a_4 : Go.Addr), a = Option.some a_4 ∧ Go.Sx.stOK
 (Go.Addr.add a_4 (2 : Nat)) (0 : Nat) [Go.Value.slice x_5 x_6 x_7] w'_1 ∧ ∀ (w' : Go.World), w' = Go.Sx.setAll (Go.Addr.add a_4 (2 : Nat)) (0 : Nat) [Go.Value.slice x_5 x_6 x_7] w'_1 → ∃ (a_6 :
 Go.Addr), a = Option.some a_6 ∧ ∃ (x : Option Go.Addr), ∃ (x_8 : Nat), ∃ (x_9 : Nat), Go.World.cell? w' (Go.Addr.add a_6 (2 : Nat)) = Option.some (Go.Value.slice x x_8 x_9) ∧ K (Go.Value.int
 Go.IntKind.i64 (Go.IntKind.wrap Go.IntKind.i64 ((↑x_8 : Int) - (1 : Int)))) w'
theorem tree_Arena_place.eq (a : Option Addr) (n : Option Addr) (w : World) (K : Value → World → Prop) : tree_Arena_place.W a n w K = fnW Try.prog Try.f44 (.named .auto) [.pointer a, .pointer n] w K := by kernel_rfl
theorem tree_Arena_place.calls (ok : Okay Try.prog) {a : Option Addr} {n : Option Addr} {w : World} {K : Value → World → Prop} (h : tree_Arena_place.W a n w K) : CallsV Try.prog 44 #[.pointer a, .pointer n] w K :=
  fnW_calls ok Try.func44 (an := (.named .auto)) (args := [.pointer a, .pointer n]) (by rw [← tree_Arena_place.eq]; exact h)
noncomputable def tree_Arena_top.W : Option Addr → Int → World → (Value → World → Prop) → Prop := fun (a : Option Go.Addr) (root : Int) (w : Go.World) (K : Go.Value → Go.World → Prop) => Go.Sx.CallsV
 Go.Proofs.Try.prog (43 : Nat) #[Go.Value.pointer a] w fun (v : Go.Value) (w' : Go.World) => ∃ (x : Bool), v = Go.Value.bool x ∧ bif !x then K (Go.Value.tuple #[Go.Value.int Go.IntKind.i64 (0 : Int),
 Go.Value.int Go.IntKind.i64 (1 : Int)]) w' else ∃ (a_1 : Go.Addr), a = Option.some a_1 ∧ ∃ (x : Option Nat), Go.World.cell? w' (Go.Addr.add a_1 (4 : Nat)) = Option.some (Go.Value.map x) ∧ ∃ (x_1 :
 Int), ∃ (x_2 : Bool), ∃ (w'_1 : Go.World), Go.Sx.RunsTo Go.Proofs.Try.prog (Go.Instr.lookup (30 : Nat) (Go.Value.map x) (Go.Value.int Go.IntKind.i64 root) Bool.true) w' (Go.Value.tuple #[Go.Value.int
 Go.IntKind.i64 x_1, Go.Value.bool x_2]) w'_1 ∧ bif !x_2 then K (Go.Value.tuple #[Go.Value.int Go.IntKind.i64 (0 : Int), Go.Value.int Go.IntKind.i64 (41 : Int)]) w'_1 else K (Go.Value.tuple
 #[Go.Value.int Go.IntKind.i64 x_1, Go.Value.int Go.IntKind.i64 (0 : Int)]) w'_1
theorem tree_Arena_top.eq (a : Option Addr) (root : Int) (w : World) (K : Value → World → Prop) : tree_Arena_top.W a root w K = fnW Try.prog Try.f45 (.named .auto) [.pointer a, .int .i64 root] w K := by kernel_rfl
theorem tree_Arena_top.calls (ok : Okay Try.prog) {a : Option Addr} {root : Int} {w : World} {K : Value → World → Prop} (h : tree_Arena_top.W a root w K) : CallsV Try.prog 45 #[.pointer a, .int .i64 root] w K :=
  fnW_calls ok Try.func45 (an := (.named .auto)) (args := [.pointer a, .int .i64 root]) (by rw [← tree_Arena_top.eq]; exact h)
noncomputable def tree_Arena_leaf.W : Option Addr → Int → Option Addr → Nat → Nat → World → (Value → World → Prop) → Prop := fun (a : Option Go.Addr) (i : Int) (key_A : Option Go.Addr) (key_n key_c :
 Nat) (w : Go.World) (K : Go.Value → Go.World → Prop) => ∀ (g : Nat) (w' : Go.World), Go.Sx.Fresh w g w' [Go.Value.int Go.IntKind.i64 i] (3 : Nat) → ∃ (a_2 : Go.Addr), a = Option.some a_2 ∧ ∃ (x :
 Option Go.Addr), ∃ (x_1 : Nat), ∃ (x_2 : Nat), Go.World.cell? w' (Go.Addr.add a_2 (2 : Nat)) = Option.some (Go.Value.slice x x_1 x_2) ∧ ∃ (ad : Go.Addr), x = Option.some ad ∧ ((0 : Int) ≤ i ∧ i < (↑x_1
 : Int)) ∧ ∃ (x : Option Go.Addr), Go.World.cell? w' (Go.Addr.add ad (Int.toNat i * (1 : Nat))) = Option.some (Go.Value.pointer x) ∧ ∃ (I : Option Go.Addr → Nat → Nat → Option Go.Addr → Go.World →
 Prop), ∃ (μ : Option Go.Addr → Nat → Nat → Option Go.Addr → Go.World → Nat), I (Option.some (Go.Addr.mk g (0 : Nat) Option.none)) (1 : Nat) (1 : Nat) x w' ∧ ∀ (x : Option Go.Addr) (x_3 x_4 : Nat) (x_5
 : Option Go.Addr) (w : Go.World), I x x_3 x_4 x_5 w → ∃ (a_4 : Go.Addr), x_5 = Option.some a_4 ∧ ∃ (x_6 : Option Go.Addr), ∃ (x_7 : Nat), ∃ (x_8 : Nat), Go.World.cell? w (Go.Addr.add a_4 (2 : Nat)) =
 Option.some (Go.Value.slice x_6 x_7 x_8) ∧ bif !Option.isNone x_6 then ∃ (a_5 : Go.Addr), x_5 = Option.some a_5 ∧ ∃ (S : Go.World → Prop), S (Go.World.drew w) ∧ ∃ (x_9 : Option Go.Addr), ∃ (x_10 :
 Nat), ∃ (x_11 : Nat), (∀ (u : Go.World), S u → Go.World.cell? u (Go.Addr.add a_5 (2 : Nat)) = Option.some (Go.Value.slice x_9 x_10 x_11)) ∧ Go.Sx.CallsV Go.Proofs.Try.prog (56 : Nat) #[Go.Value.pointer
 x_5, Go.Value.slice key_A key_n key_c] (Go.World.drew w) fun (v : Go.Value) (w' : Go.World) => ∃ (x_12 : Int), v = Go.Value.int Go.IntKind.i64 x_12 ∧ S w' ∧ ∃ (ad : Go.Addr), x_9 = Option.some ad ∧ ((0
 : Int) ≤ x_12 ∧ x_12 < (↑x_10 : Int)) ∧ ∃ (S : Go.World → Prop), S w' ∧ ∃ (x_13 : Int), (∀ (u : Go.World), S u → Go.World.cell? u (Go.Addr.add ad (Int.toNat x_12 * (1 : Nat))) = Option.some
 (Go.Value.int Go.IntKind.i64 x_13)) ∧ ∃ (a_6 : Go.Addr), a = Option.some a_6 ∧ ∃ (x_14 : Option Go.Addr), ∃ (x_15 : Nat), ∃ (x_16 : Nat), Go.World.cell? w' (Go.Addr.add a_6 (2 : Nat)) = Option.some
 (Go.Value.slice x_14 x_15 x_16) ∧ ∃ (ad : Go.Addr), x_14 = Option.some ad ∧ ((0 : Int) ≤ x_13 ∧ x_13 < (↑x_15 : Int)) ∧ ∃ (x_17 : Option Go.Addr), Go.World.cell? w' (Go.Addr.add ad (Int.toNat x_13 * (1
 : Nat))) = Option.some (Go.Value.pointer x_17) ∧ ∀ (g : Nat) (w'_1 : Go.World), Go.Sx.Fresh w' g w'_1 [Go.Value.int Go.IntKind.i64 x_13] (3 : Nat) → ∃ (x_18 : Option Go.Addr), ∃ (x_19 : Nat), ∃ (x_20 :
 Nat), ∃ (w' : Go.World), Go.Sx.RunsTo Go.Proofs.Try.prog (Go.Builtin.append_ (Array.mk [(22 : Nat), (22 : Nat)]) (22 : Nat) #[Go.Value.slice x x_3 x_4, Go.Value.slice (Option.some (Go.Addr.mk g (0 :
 Nat) Option.none)) (1 : Nat) (1 : Nat)]) w'_1 (Go.Value.slice x_18 x_19 x_20) w' ∧ I x_18 x_19 x_20 x_17 w' ∧ μ x_18 x_19 x_20 x_17 w' < μ x x_3 x_4 x_5 w else K (Go.Value.tuple #[Go.Value.pointer x_5,
 Go.Value.slice x x_3 x_4]) w
theorem tree_Arena_leaf.eq (a : Option Addr) (i : Int) (key_A : Option Addr) (key_n : Nat) (key_c : Nat) (w : World) (K : Value → World → Prop) : tree_Arena_leaf.W a i key_A key_n key_c w K = fnW Try.prog Try.f46 (.named (.seq .auto (.seq .auto (.seq .auto (.seq (.block (.loop [(8, .one .slc), (9, .one .ptr)] .auto)) .auto))))) [.pointer a, .int .i64 i, .slice key_A key_n key_c] w K := by kernel_rfl
theorem tree_Arena_leaf.calls (ok : Okay Try.prog) {a : Option Addr} {i : Int} {key_A : Option Addr} {key_n : Nat} {key_c : Nat} {w : World} {K : Value → World → Prop} (h : tree_Arena_leaf.W a i key_A key_n key_c w K) : CallsV Try.prog 46 #[.pointer a, .int .i64 i, .slice key_A key_n key_c] w K :=
  fnW_calls ok Try.func46 (an := (.named (.seq .auto (.seq .auto (.seq .auto (.seq (.block (.loop [(8, .one .slc), (9, .one .ptr)] .auto)) .auto)))))) (args := [.pointer a, .int .i64 i, .slice key_A key_n key_c]) (by rw [← tree_Arena_leaf.eq]; exact h)
noncomputable def tree_Arena_wants.W : Option Addr → Option Addr → Nat → Nat → World → (Value → World → Prop) → Prop := fun (a way_A : Option Go.Addr) (way_n way_c : Nat) (w : Go.World) (K : Go.Value →
 Go.World → Prop) => ∃ (I : Int → Int → Go.World → Prop), ∃ (μ : Int → Int → Go.World → Nat), I (0 : Int) (Go.IntKind.wrap Go.IntKind.i64 ((↑way_n : Int) - (1 : Int))) w ∧ ∀ (x x_1 : Int) (w :
 Go.World), I x x_1 w → bif Decidable.decide ((0 : Int) ≤ x_1) then ∃ (a_2 : Go.Addr), a = Option.some a_2 ∧ ∃ (S : Go.World → Prop), S (Go.World.drew w) ∧ ∃ (x_2 : Option Go.Addr), ∃ (x_3 : Nat), ∃
 (x_4 : Nat), (∀ (u : Go.World), S u → Go.World.cell? u (Go.Addr.add a_2 (2 : Nat)) = Option.some (Go.Value.slice x_2 x_3 x_4)) ∧ ∃ (ad : Go.Addr), way_A = Option.some ad ∧ ((0 : Int) ≤ x_1 ∧ x_1 <
 (↑way_n : Int)) ∧ ∃ (x_5 : Int), (∀ (u : Go.World), S u → Go.World.cell? u (Go.Addr.add ad (Int.toNat x_1 * (1 : Nat))) = Option.some (Go.Value.int Go.IntKind.i64 x_5)) ∧ ∃ (ad : Go.Addr), x_2 =
 Option.some ad ∧ ((0 : Int) ≤ x_5 ∧ x_5 < (↑x_3 : Int)) ∧ ∃ (x_6 : Option Go.Addr), (∀ (u : Go.World), S u → Go.World.cell? u (Go.Addr.add ad (Int.toNat x_5 * (1 : Nat))) = Option.some
 (Go.Value.pointer x_6)) ∧ ∃ (a_3 : Go.Addr), a = Option.some a_3 ∧ ∃ (x_7 : Int), (∀ (u : Go.World), S u → Go.World.cell? u (Go.Addr.add a_3 (0 : Nat)) = Option.some (Go.Value.int Go.IntKind.i64 x_7))
 ∧ Go.Sx.CallsV Go.Proofs.Try.prog (72 : Nat) #[Go.Value.pointer x_6] (Go.World.drew w) fun (v : Go.Value) (w' : Go.World) => ∃ (x_8 : Int), v = Go.Value.int Go.IntKind.i64 x_8 ∧ S w' ∧ bif
 Decidable.decide (x_8 < x_7) then K (Go.Value.int Go.IntKind.i64 x) w' else I (Go.IntKind.wrap Go.IntKind.i64 (x + (1 : Int))) (Go.IntKind.wrap Go.IntKind.i64 (x_1 - (1 : Int))) w' ∧ μ (Go.IntKind.wrap
 Go.IntKind.i64 (x + (1 : Int))) (Go.IntKind.wrap Go.IntKind.i64 (x_1 - (1 : Int))) w' < μ x x_1 w else K (Go.Value.int Go.IntKind.i64 (Go.IntKind.wrap Go.IntKind.i64 (x + (1 : Int)))) w
theorem tree_Arena_wants.eq (a : Option Addr) (way_A : Option Addr) (way_n : Nat) (way_c : Nat) (w : World) (K : Value → World → Prop) : tree_Arena_wants.W a way_A way_n way_c w K = fnW Try.prog Try.f49 (.named (.seq .auto (.seq .auto (.seq (.seq .auto (.block (.loop [(5, .one (.int .i64)), (6, .one (.int .i64))] .auto))) .auto)))) [.pointer a, .slice way_A way_n way_c] w K := by kernel_rfl
theorem tree_Arena_wants.calls (ok : Okay Try.prog) {a : Option Addr} {way_A : Option Addr} {way_n : Nat} {way_c : Nat} {w : World} {K : Value → World → Prop} (h : tree_Arena_wants.W a way_A way_n way_c w K) : CallsV Try.prog 49 #[.pointer a, .slice way_A way_n way_c] w K :=
  fnW_calls ok Try.func49 (an := (.named (.seq .auto (.seq .auto (.seq (.seq .auto (.block (.loop [(5, .one (.int .i64)), (6, .one (.int .i64))] .auto))) .auto))))) (args := [.pointer a, .slice way_A way_n way_c]) (by rw [← tree_Arena_wants.eq]; exact h)
noncomputable def tree_Arena_put.W : Option Addr → Int → Option Addr → Nat → Nat → Option Addr → Nat → Nat → World → (Value → World → Prop) → Prop := fun (a : Option Go.Addr) (i : Int) (key_A : Option
 Go.Addr) (key_n key_c : Nat) (val_A : Option Go.Addr) (val_n val_c : Nat) (w : Go.World) (K : Go.Value → Go.World → Prop) => ∃ (a_1 : Go.Addr), a = Option.some a_1 ∧ ∃ (x : Option Go.Addr), ∃ (x_1 :
 Nat), ∃ (x_2 : Nat), Go.World.cell? w (Go.Addr.add a_1 (2 : Nat)) = Option.some (Go.Value.slice x x_1 x_2) ∧ ∃ (ad : Go.Addr), x = Option.some ad ∧ ((0 : Int) ≤ i ∧ i < (↑x_1 : Int)) ∧ ∃ (x : Option
 Go.Addr), Go.World.cell? w (Go.Addr.add ad (Int.toNat i * (1 : Nat))) = Option.some (Go.Value.pointer x) ∧ ∃ (a_2 : Go.Addr), x = Option.some a_2 ∧ ∃ (x_3 : Option Go.Addr), ∃ (x_4 : Nat), ∃ (x_5 :
 Nat), Go.World.cell? w (Go.Addr.add a_2 (2 : Nat)) = Option.some (Go.Value.slice x_3 x_4 x_5) ∧ bif Option.isNone x_3 then ∃ (a_3 : Go.Addr), x = Option.some a_3 ∧ ∃ (x_6 : Option Go.Addr), ∃ (x_7 :
 Nat), ∃ (x_8 : Nat), Go.World.cell? w (Go.Addr.add a_3 (0 : Nat)) = Option.some (Go.Value.slice x_6 x_7 x_8) ∧ Go.Sx.CallsV Go.Proofs.Try.prog (47 : Nat) #[Go.Value.slice x_6 x_7 x_8, Go.Value.slice
 key_A key_n key_c, Go.Value.func (Go.Fn.func (48 : Nat)) #[] #[]] w fun (v : Go.Value) (w' : Go.World) => ∃ (x_9 : Int), ∃ (x_10 : Bool), v = Go.Value.tuple #[Go.Value.int Go.IntKind.i64 x_9,
 Go.Value.bool x_10] ∧ ∃ (J : Option Go.Addr → Go.World → Prop), (∀ (x : Option Go.Addr) (w : Go.World), J x w → bif x_10 then ∃ (a_5 : Go.Addr), x = Option.some a_5 ∧ ∃ (x_11 : Option Go.Addr), ∃ (x_12
 : Nat), ∃ (x_13 : Nat), Go.World.cell? w (Go.Addr.add a_5 (1 : Nat)) = Option.some (Go.Value.slice x_11 x_12 x_13) ∧ ∃ (ad : Go.Addr), x_11 = Option.some ad ∧ ((0 : Int) ≤ x_9 ∧ x_9 < (↑x_12 : Int)) ∧
 Go.Sx.stOK (Go.Addr.add ad (Int.toNat x_9 * (1 : Nat))) (0 : Nat) [Go.Value.slice val_A val_n val_c] w ∧ ∀ (w' : Go.World), w' = Go.Sx.setAll (Go.Addr.add ad (Int.toNat x_9 * (1 : Nat))) (0 : Nat)
 [Go.Value.slice val_A val_n val_c] w → Go.Sx.CallsV Go.Proofs.Try.prog (75 : Nat) #[Go.Value.pointer a, Go.Value.int Go.IntKind.i64 i, Go.Value.pointer x] w' fun (v : Go.Value) (w' : Go.World) => ∃ (x
 : Option Go.Addr), ∃ (x_14 : Nat), ∃ (x_15 : Nat), ∃ (x_16 : Int), ∃ (x_17 : Bool), v = Go.Value.tuple #[Go.Value.slice x x_14 x_15, Go.Value.int Go.IntKind.i64 x_16, Go.Value.bool x_17] ∧ K
 (Go.Value.tuple #[Go.Value.slice x x_14 x_15, Go.Value.int Go.IntKind.i64 x_16, Go.Value.bool x_17]) w' else ∃ (a_5 : Go.Addr), x = Option.some a_5 ∧ ∃ (S : Go.World → Prop), S (Go.World.drew w) ∧ ∃
 (x_11 : Option Go.Addr), ∃ (x_12 : Nat), ∃ (x_13 : Nat), (∀ (u : Go.World), S u → Go.World.cell? u (Go.Addr.add a_5 (0 : Nat)) = Option.some (Go.Value.slice x_11 x_12 x_13)) ∧ ∃ (a_6 : Go.Addr), x =
 Option.some a_6 ∧ ∃ (x_14 : Option Go.Addr), ∃ (x_15 : Nat), ∃ (x_16 : Nat), (∀ (u : Go.World), S u → Go.World.cell? u (Go.Addr.add a_6 (1 : Nat)) = Option.some (Go.Value.slice x_14 x_15 x_16)) ∧ (∀ (g
 : Nat) (w' : Go.World), Go.Sx.Fresh (Go.World.drew w) g w' [Go.Value.slice key_A key_n key_c] (36 : Nat) → S w' ∧ (Go.Sx.CallsV Go.Proofs.Try.prog (74 : Nat) #[Go.Value.slice x_11 x_12 x_13,
 Go.Value.int Go.IntKind.i64 x_9, Go.Value.slice (Option.some (Go.Addr.mk g (0 : Nat) Option.none)) (1 : Nat) (1 : Nat)] w' fun (v : Go.Value) (w' : Go.World) => ∃ (x_17 : Option Go.Addr), ∃ (x_18 :
 Nat), ∃ (x_19 : Nat), v = Go.Value.slice x_17 x_18 x_19 ∧ S w' ∧ ∀ (g : Nat) (w'_1 : Go.World), Go.Sx.Fresh w' g w'_1 [Go.Value.slice val_A val_n val_c] (36 : Nat) → S w'_1 ∧ Go.Sx.CallsV
 Go.Proofs.Try.prog (74 : Nat) #[Go.Value.slice x_14 x_15 x_16, Go.Value.int Go.IntKind.i64 x_9, Go.Value.slice (Option.some (Go.Addr.mk g (0 : Nat) Option.none)) (1 : Nat) (1 : Nat)] w'_1 fun (v :
 Go.Value) (w' : Go.World) => ∃ (x_20 : Option Go.Addr), ∃ (x_21 : Nat), ∃ (x_22 : Nat), v = Go.Value.slice x_20 x_21 x_22 ∧ ∃ (a_9 : Go.Addr), x = Option.some a_9 ∧ Go.Sx.stOK (Go.Addr.add a_9 (0 :
 Nat)) (0 : Nat) [Go.Value.slice x_17 x_18 x_19] w' ∧ ∀ (w'_2 : Go.World), w'_2 = Go.Sx.setAll (Go.Addr.add a_9 (0 : Nat)) (0 : Nat) [Go.Value.slice x_17 x_18 x_19] w' → ∃ (a_11 : Go.Addr), x =
 Option.some a_11 ∧ Go.Sx.stOK (Go.Addr.add a_11 (1 : Nat)) (0 : Nat) [Go.Value.slice x_20 x_21 x_22] w'_2 ∧ ∀ (w' : Go.World), w' = Go.Sx.setAll (Go.Addr.add a_11 (1 : Nat)) (0 : Nat) [Go.Value.slice
 x_20 x_21 x_22] w'_2 → Go.Sx.CallsV Go.Proofs.Try.prog (75 : Nat) #[Go.Value.pointer a, Go.Value.int Go.IntKind.i64 i, Go.Value.pointer x] w' fun (v : Go.Value) (w' : Go.World) => ∃ (x : Option
 Go.Addr), ∃ (x_23 : Nat), ∃ (x_24 : Nat), ∃ (x_25 : Int), ∃ (x_26 : Bool), v = Go.Value.tuple #[Go.Value.slice x x_23 x_24, Go.Value.int Go.IntKind.i64 x_25, Go.Value.bool x_26] ∧ K (Go.Value.tuple
 #[Go.Value.slice x x_23 x_24, Go.Value.int Go.IntKind.i64 x_25, Go.Value.bool x_26]) w') ∧ ∀ (g_1 : Nat) (w'_1 : Go.World), Go.Sx.Fresh w' g_1 w'_1 [Go.Value.slice val_A val_n val_c] (36 : Nat) → S
 w'_1 ∧ Go.Sx.CallsV Go.Proofs.Try.prog (74 : Nat) #[Go.Value.slice x_11 x_12 x_13, Go.Value.int Go.IntKind.i64 x_9, Go.Value.slice (Option.some (Go.Addr.mk g (0 : Nat) Option.none)) (1 : Nat) (1 :
 Nat)] w'_1 fun (v : Go.Value) (w' : Go.World) => ∃ (x_17 : Option Go.Addr), ∃ (x_18 : Nat), ∃ (x_19 : Nat), v = Go.Value.slice x_17 x_18 x_19 ∧ S w' ∧ Go.Sx.CallsV Go.Proofs.Try.prog (74 : Nat)
 #[Go.Value.slice x_14 x_15 x_16, Go.Value.int Go.IntKind.i64 x_9, Go.Value.slice (Option.some (Go.Addr.mk g_1 (0 : Nat) Option.none)) (1 : Nat) (1 : Nat)] w' fun (v : Go.Value) (w' : Go.World) => ∃
 (x_20 : Option Go.Addr), ∃ (x_21 : Nat), ∃ (x_22 : Nat), v = Go.Value.slice x_20 x_21 x_22 ∧ ∃ (a_9 : Go.Addr), x = Option.some a_9 ∧ Go.Sx.stOK (Go.Addr.add a_9 (0 : Nat)) (0 : Nat) [Go.Value.slice
 x_17 x_18 x_19] w' ∧ ∀ (w'_2 : Go.World), w'_2 = Go.Sx.setAll (Go.Addr.add a_9 (0 : Nat)) (0 : Nat) [Go.Value.slice x_17 x_18 x_19] w' → ∃ (a_11 : Go.Addr), x = Option.some a_11 ∧ Go.Sx.stOK
 (Go.Addr.add a_11 (1 : Nat)) (0 : Nat) [Go.Value.slice x_20 x_21 x_22] w'_2 ∧ ∀ (w' : Go.World), w' = Go.Sx.setAll (Go.Addr.add a_11 (1 : Nat)) (0 : Nat) [Go.Value.slice x_20 x_21 x_22] w'_2 →
 Go.Sx.CallsV Go.Proofs.Try.prog (75 : Nat) #[Go.Value.pointer a, Go.Value.int Go.IntKind.i64 i, Go.Value.pointer x] w' fun (v : Go.Value) (w' : Go.World) => ∃ (x : Option Go.Addr), ∃ (x_23 : Nat), ∃
 (x_24 : Nat), ∃ (x_25 : Int), ∃ (x_26 : Bool), v = Go.Value.tuple #[Go.Value.slice x x_23 x_24, Go.Value.int Go.IntKind.i64 x_25, Go.Value.bool x_26] ∧ K (Go.Value.tuple #[Go.Value.slice x x_23 x_24,
 Go.Value.int Go.IntKind.i64 x_25, Go.Value.bool x_26]) w') ∧ ∀ (g : Nat) (w' : Go.World), Go.Sx.Fresh (Go.World.drew w) g w' [Go.Value.slice val_A val_n val_c] (36 : Nat) → S w' ∧ ∀ (g_1 : Nat) (w'_1 :
 Go.World), Go.Sx.Fresh w' g_1 w'_1 [Go.Value.slice key_A key_n key_c] (36 : Nat) → S w'_1 ∧ Go.Sx.CallsV Go.Proofs.Try.prog (74 : Nat) #[Go.Value.slice x_11 x_12 x_13, Go.Value.int Go.IntKind.i64 x_9,
 Go.Value.slice (Option.some (Go.Addr.mk g_1 (0 : Nat) Option.none)) (1 : Nat) (1 : Nat)] w'_1 fun (v : Go.Value) (w' : Go.World) => ∃ (x_17 : Option Go.Addr), ∃ (x_18 : Nat), ∃ (x_19 : Nat), v =
 Go.Value.slice x_17 x_18 x_19 ∧ S w' ∧ Go.Sx.CallsV Go.Proofs.Try.prog (74 : Nat) #[Go.Value.slice x_14 x_15 x_16, Go.Value.int Go.IntKind.i64 x_9, Go.Value.slice (Option.some (Go.Addr.mk g (0 : Nat)
 Option.none)) (1 : Nat) (1 : Nat)] w' fun (v : Go.Value) (w' : Go.World) => ∃ (x_20 : Option Go.Addr), ∃ (x_21 : Nat), ∃ (x_22 : Nat), v = Go.Value.slice x_20 x_21 x_22 ∧ ∃ (a_9 : Go.Addr), x =
 Option.some a_9 ∧ Go.Sx.stOK (Go.Addr.add a_9 (0 : Nat)) (0 : Nat) [Go.Value.slice x_17 x_18 x_19] w' ∧ ∀ (w'_2 : Go.World), w'_2 = Go.Sx.setAll (Go.Addr.add a_9 (0 : Nat)) (0 : Nat) [Go.Value.slice
 x_17 x_18 x_19] w' → ∃ (a_11 : Go.Addr), x = Option.some a_11 ∧ Go.Sx.stOK (Go.Addr.add a_11 (1 : Nat)) (0 : Nat) [Go.Value.slice x_20 x_21 x_22] w'_2 ∧ ∀ (w' : Go.World), w' = Go.Sx.setAll
 (Go.Addr.add a_11 (1 : Nat)) (0 : Nat) [Go.Value.slice x_20 x_21 x_22] w'_2 → Go.Sx.CallsV Go.Proofs.Try.prog (75 : Nat) #[Go.Value.pointer a, Go.Value.int Go.IntKind.i64 i, Go.Value.pointer x] w' fun
 (v : Go.Value) (w' : Go.World) => ∃ (x : Option Go.Addr), ∃ (x_23 : Nat), ∃ (x_24 : Nat), ∃ (x_25 : Int), ∃ (x_26 : Bool), v = Go.Value.tuple #[Go.Value.slice x x_23 x_24, Go.Value.int Go.IntKind.i64
 x_25, Go.Value.bool x_26] ∧ K (Go.Value.tuple #[Go.Value.slice x x_23 x_24, Go.Value.int Go.IntKind.i64 x_25, Go.Value.bool x_26]) w') ∧ ∃ (a : Go.Addr), x = Option.some a ∧ ∃ (S : Go.World → Prop), S
 (Go.World.drew w') ∧ ∃ (x_11 : Option Go.Addr), ∃ (x_12 : Nat), ∃ (x_13 : Nat), (∀ (u : Go.World), S u → Go.World.cell? u (Go.Addr.add a (0 : Nat)) = Option.some (Go.Value.slice x_11 x_12 x_13)) ∧ ∃ (a
 : Go.Addr), x = Option.some a ∧ ∃ (x : Option Go.Addr), ∃ (x_14 : Nat), ∃ (x_15 : Nat), (∀ (u : Go.World), S u → Go.World.cell? u (Go.Addr.add a (1 : Nat)) = Option.some (Go.Value.slice x x_14 x_15)) ∧
 Go.Sx.CallsV Go.Proofs.Try.prog (73 : Nat) #[Go.Value.slice x_11 x_12 x_13] (Go.World.drew w') fun (v : Go.Value) (w' : Go.World) => ∃ (x_16 : Option Go.Addr), ∃ (x_17 : Nat), ∃ (x_18 : Nat), v =
 Go.Value.slice x_16 x_17 x_18 ∧ S w' ∧ Go.Sx.CallsV Go.Proofs.Try.prog (73 : Nat) #[Go.Value.slice x x_14 x_15] w' fun (v : Go.Value) (w' : Go.World) => ∃ (x : Option Go.Addr), ∃ (x_19 : Nat), ∃ (x_20
 : Nat), v = Go.Value.slice x x_19 x_20 ∧ ∀ (g : Nat) (w'_1 : Go.World), Go.Sx.Fresh w' g w'_1 [Go.Value.slice x_16 x_17 x_18, Go.Value.slice x x_19 x_20, Go.Value.slice Option.none (0 : Nat) (0 : Nat)]
 (92 : Nat) → J (Option.some (Go.Addr.mk g (0 : Nat) Option.none)) w'_1 else Go.Sx.CallsV Go.Proofs.Try.prog (56 : Nat) #[Go.Value.pointer x, Go.Value.slice key_A key_n key_c] w fun (v : Go.Value) (w' :
 Go.World) => ∃ (x_6 : Int), v = Go.Value.int Go.IntKind.i64 x_6 ∧ ∃ (a_3 : Go.Addr), x = Option.some a_3 ∧ ∃ (x_7 : Option Go.Addr), ∃ (x_8 : Nat), ∃ (x_9 : Nat), Go.World.cell? w' (Go.Addr.add a_3 (2
 : Nat)) = Option.some (Go.Value.slice x_7 x_8 x_9) ∧ ∃ (ad : Go.Addr), x_7 = Option.some ad ∧ ((0 : Int) ≤ x_6 ∧ x_6 < (↑x_8 : Int)) ∧ ∃ (x_10 : Int), Go.World.cell? w' (Go.Addr.add ad (Int.toNat x_6 *
 (1 : Nat))) = Option.some (Go.Value.int Go.IntKind.i64 x_10) ∧ Go.Sx.CallsV Go.Proofs.Try.prog (50 : Nat) #[Go.Value.pointer a, Go.Value.int Go.IntKind.i64 x_10, Go.Value.slice key_A key_n key_c,
 Go.Value.slice val_A val_n val_c] w' fun (v : Go.Value) (w' : Go.World) => ∃ (x_11 : Option Go.Addr), ∃ (x_12 : Nat), ∃ (x_13 : Nat), ∃ (x_14 : Int), ∃ (x_15 : Bool), v = Go.Value.tuple
 #[Go.Value.slice x_11 x_12 x_13, Go.Value.int Go.IntKind.i64 x_14, Go.Value.bool x_15] ∧ bif !x_15 then K (Go.Value.tuple #[Go.Value.slice Option.none (0 : Nat) (0 : Nat), Go.Value.int Go.IntKind.i64
 (0 : Int), Go.Value.bool Bool.false]) w' else ∃ (a_4 : Go.Addr), x = Option.some a_4 ∧ ∃ (S : Go.World → Prop), S (Go.World.drew w') ∧ ∃ (x_16 : Option Go.Addr), ∃ (x_17 : Nat), ∃ (x_18 : Nat), (∀ (u :
 Go.World), S u → Go.World.cell? u (Go.Addr.add a_4 (0 : Nat)) = Option.some (Go.Value.slice x_16 x_17 x_18)) ∧ ∃ (a_5 : Go.Addr), x = Option.some a_5 ∧ ∃ (x : Option Go.Addr), ∃ (x_19 : Nat), ∃ (x_20 :
 Nat), (∀ (u : Go.World), S u → Go.World.cell? u (Go.Addr.add a_5 (2 : Nat)) = Option.some (Go.Value.slice x x_19 x_20)) ∧ (Go.Sx.CallsV Go.Proofs.Try.prog (73 : Nat) #[Go.Value.slice x_16 x_17 x_18]
 (Go.World.drew w') fun (v : Go.Value) (w' : Go.World) => ∃ (x_21 : Option Go.Addr), ∃ (x_22 : Nat), ∃ (x_23 : Nat), v = Go.Value.slice x_21 x_22 x_23 ∧ S w' ∧ (∀ (g : Nat) (w'_1 : Go.World),
 Go.Sx.Fresh w' g w'_1 [Go.Value.slice x_11 x_12 x_13] (36 : Nat) → S w'_1 ∧ (Go.Sx.CallsV Go.Proofs.Try.prog (74 : Nat) #[Go.Value.slice x_21 x_22 x_23, Go.Value.int Go.IntKind.i64 x_6, Go.Value.slice
 (Option.some (Go.Addr.mk g (0 : Nat) Option.none)) (1 : Nat) (1 : Nat)] w'_1 fun (v : Go.Value) (w' : Go.World) => ∃ (x_24 : Option Go.Addr), ∃ (x_25 : Nat), ∃ (x_26 : Nat), v = Go.Value.slice x_24
 x_25 x_26 ∧ S w' ∧ (Go.Sx.CallsV Go.Proofs.Try.prog (63 : Nat) #[Go.Value.slice x x_19 x_20] w' fun (v : Go.Value) (w' : Go.World) => ∃ (x : Option Go.Addr), ∃ (x_27 : Nat), ∃ (x_28 : Nat), v =
 Go.Value.slice x x_27 x_28 ∧ ∀ (g : Nat) (w'_2 : Go.World), Go.Sx.Fresh w' g w'_2 [Go.Value.int Go.IntKind.i64 x_14] (3 : Nat) → Go.Sx.CallsV Go.Proofs.Try.prog (76 : Nat) #[Go.Value.slice x x_27 x_28,
 Go.Value.int Go.IntKind.i64 (Go.IntKind.wrap Go.IntKind.i64 (x_6 + (1 : Int))), Go.Value.slice (Option.some (Go.Addr.mk g (0 : Nat) Option.none)) (1 : Nat) (1 : Nat)] w'_2 fun (v : Go.Value) (w' :
 Go.World) => ∃ (x : Option Go.Addr), ∃ (x_29 : Nat), ∃ (x_30 : Nat), v = Go.Value.slice x x_29 x_30 ∧ ∀ (g : Nat) (w'_3 : Go.World), Go.Sx.Fresh w' g w'_3 [Go.Value.slice x_24 x_25 x_26, Go.Value.slice
 Option.none (0 : Nat) (0 : Nat), Go.Value.slice x x_29 x_30] (92 : Nat) → Go.Sx.CallsV Go.Proofs.Try.prog (75 : Nat) #[Go.Value.pointer a, Go.Value.int Go.IntKind.i64 i, Go.Value.pointer (Option.some
 (Go.Addr.mk g (0 : Nat) Option.none))] w'_3 fun (v : Go.Value) (w' : Go.World) => ∃ (x : Option Go.Addr), ∃ (x_31 : Nat), ∃ (x_32 : Nat), ∃ (x_33 : Int), ∃ (x_34 : Bool), v = Go.Value.tuple
 #[Go.Value.slice x x_31 x_32, Go.Value.int Go.IntKind.i64 x_33, Go.Value.bool x_34] ∧ K (Go.Value.tuple #[Go.Value.slice x x_31 x_32, Go.Value.int Go.IntKind.i64 x_33, Go.Value.bool x_34]) w') ∧ ∀ (g :
 Nat) (w'_2 : Go.World), Go.Sx.Fresh w' g w'_2 [Go.Value.int Go.IntKind.i64 x_14] (3 : Nat) → S w'_2 ∧ Go.Sx.CallsV Go.Proofs.Try.prog (63 : Nat) #[Go.Value.slice x x_19 x_20] w'_2 fun (v : Go.Value)
 (w' : Go.World) => ∃ (x : Option Go.Addr), ∃ (x_27 : Nat), ∃ (x_28 : Nat), v = Go.Value.slice x x_27 x_28 ∧ Go.Sx.CallsV Go.Proofs.Try.prog (76 : Nat) #[Go.Value.slice x x_27 x_28, Go.Value.int
 Go.IntKind.i64 (Go.IntKind.wrap Go.IntKind.i64 (x_6 + (1 : Int))), Go.Value.slice (Option.some (Go.Addr.mk g (0 : Nat) Option.none)) (1 : Nat) (1 : Nat)] w' fun (v : Go.Value) (w' : Go.World) => ∃ (x :
 Option Go.Addr), ∃ (x_29 : Nat), ∃ (x_30 : Nat), v = Go.Value.slice x x_29 x_30 ∧ ∀ (g : Nat) (w'_3 : Go.World), Go.Sx.Fresh w' g w'_3 [Go.Value.slice x_24 x_25 x_26, Go.Value.slice Option.none (0 :
 Nat) (0 : Nat), Go.Value.slice x x_29 x_30] (92 : Nat) → Go.Sx.CallsV Go.Proofs.Try.prog (75 : Nat) #[Go.Value.pointer a, Go.Value.int Go.IntKind.i64 i, Go.Value.pointer (Option.some (Go.Addr.mk g (0 :
 Nat) Option.none))] w'_3 fun (v : Go.Value) (w' : Go.World) => ∃ (x : Option Go.Addr), ∃ (x_31 : Nat), ∃ (x_32 : Nat), ∃ (x_33 : Int), ∃ (x_34 : Bool), v = Go.Value.tuple #[Go.Value.slice x x_31 x_32,
 Go.Value.int Go.IntKind.i64 x_33, Go.Value.bool x_34] ∧ K (Go.Value.tuple #[Go.Value.slice x x_31 x_32, Go.Value.int Go.IntKind.i64 x_33, Go.Value.bool x_34]) w') ∧ ∀ (g_1 : Nat) (w' : Go.World),
 Go.Sx.Fresh w'_1 g_1 w' [Go.Value.int Go.IntKind.i64 x_14] (3 : Nat) → S w' ∧ Go.Sx.CallsV Go.Proofs.Try.prog (74 : Nat) #[Go.Value.slice x_21 x_22 x_23, Go.Value.int Go.IntKind.i64 x_6, Go.Value.slice
 (Option.some (Go.Addr.mk g (0 : Nat) Option.none)) (1 : Nat) (1 : Nat)] w' fun (v : Go.Value) (w' : Go.World) => ∃ (x_24 : Option Go.Addr), ∃ (x_25 : Nat), ∃ (x_26 : Nat), v = Go.Value.slice x_24 x_25
 x_26 ∧ S w' ∧ Go.Sx.CallsV Go.Proofs.Try.prog (63 : Nat) #[Go.Value.slice x x_19 x_20] w' fun (v : Go.Value) (w' : Go.World) => ∃ (x : Option Go.Addr), ∃ (x_27 : Nat), ∃ (x_28 : Nat), v =
 Go.Value.slice x x_27 x_28 ∧ Go.Sx.CallsV Go.Proofs.Try.prog (76 : Nat) #[Go.Value.slice x x_27 x_28, Go.Value.int Go.IntKind.i64 (Go.IntKind.wrap Go.IntKind.i64 (x_6 + (1 : Int))), Go.Value.slice
 (Option.some (Go.Addr.mk g_1 (0 : Nat) Option.none)) (1 : Nat) (1 : Nat)] w' fun (v : Go.Value) (w' : Go.World) => ∃ (x : Option Go.Addr), ∃ (x_29 : Nat), ∃ (x_30 : Nat), v = Go.Value.slice x x_29 x_30
 ∧ ∀ (g : Nat) (w'_2 : Go.World), Go.Sx.Fresh w' g w'_2 [Go.Value.slice x_24 x_25 x_26, Go.Value.slice Option.none (0 : Nat) (0 : Nat), Go.Value.slice x x_29 x_30] (92 : Nat) → Go.Sx.CallsV
 Go.Proofs.Try.prog (75 : Nat) #[Go.Value.pointer a, Go.Value.int Go.IntKind.i64 i, Go.Value.pointer (Option.some (Go.Addr.mk g (0 : Nat) Option.none))] w'_2 fun (v : Go.Value) (w' : Go.World) => ∃ (x :
 Option Go.Addr), ∃ (x_31 : Nat), ∃ (x_32 : Nat), ∃ (x_33 : Int), ∃ (x_34 : Bool), v = Go.Value.tuple #[Go.Value.slice x x_31 x_32, Go.Value.int Go.IntKind.i64 x_33, Go.Value.bool x_34] ∧ K
 (Go.Value.tuple #[Go.Value.slice x x_31 x_32, Go.Value.int Go.IntKind.i64 x_33, Go.Value.bool x_34]) w') ∧ ∀ (g : Nat) (w'_1 : Go.World), Go.Sx.Fresh w' g w'_1 [Go.Value.int Go.IntKind.i64 x_14] (3 :
 Nat) → S w'_1 ∧ ∀ (g_1 : Nat) (w' : Go.World), Go.Sx.Fresh w'_1 g_1 w' [Go.Value.slice x_11 x_12 x_13] (36 : Nat) → S w' ∧ Go.Sx.CallsV Go.Proofs.Try.prog (74 : Nat) #[Go.Value.slice x_21 x_22 x_23,
 Go.Value.int Go.IntKind.i64 x_6, Go.Value.slice (Option.some (Go.Addr.mk g_1 (0 : Nat) Option.none)) (1 : Nat) (1 : Nat)] w' fun (v : Go.Value) (w' : Go.World) => ∃ (x_24 : Option Go.Addr), ∃ (x_25 :
 Nat), ∃ (x_26 : Nat), v = Go.Value.slice x_24 x_25 x_26 ∧ S w' ∧ Go.Sx.CallsV Go.Proofs.Try.prog (63 : Nat) #[Go.Value.slice x x_19 x_20] w' fun (v : Go.Value) (w' : Go.World) => ∃ (x : Option
 Go.Addr), ∃ (x_27 : Nat), ∃ (x_28 : Nat), v = Go.Value.slice x x_27 x_28 ∧ Go.Sx.CallsV Go.Proofs.Try.prog (76 : Nat) #[Go.Value.slice x x_27 x_28, Go.Value.int Go.IntKind.i64 (Go.IntKind.wrap
 Go.IntKind.i64 (x_6 + (1 : Int))), Go.Value.slice (Option.some (Go.Addr.mk g (0 : Nat) Option.none)) (1 : Nat) (1 : Nat)] w' fun (v : Go.Value) (w' : Go.World) => ∃ (x : Option Go.Addr), ∃ (x_29 :
 Nat), ∃ (x_30 : Nat), v = Go.Value.slice x x_29 x_30 ∧ ∀ (g : Nat) (w'_2 : Go.World), Go.Sx.Fresh w' g w'_2 [Go.Value.slice x_24 x_25 x_26, Go.Value.slice Option.none (0 : Nat) (0 : Nat),
 Go.Value.slice x x_29 x_30] (92 : Nat) → Go.Sx.CallsV Go.Proofs.Try.prog (75 : Nat) #[Go.Value.pointer a, Go.Value.int Go.IntKind.i64 i, Go.Value.pointer (Option.some (Go.Addr.mk g (0 : Nat)
 Option.none))] w'_2 fun (v : Go.Value) (w' : Go.World) => ∃ (x : Option Go.Addr), ∃ (x_31 : Nat), ∃ (x_32 : Nat), ∃ (x_33 : Int), ∃ (x_34 : Bool), v = Go.Value.tuple #[Go.Value.slice x x_31 x_32,
 Go.Value.int Go.IntKind.i64 x_33, Go.Value.bool x_34] ∧ K (Go.Value.tuple #[Go.Value.slice x x_31 x_32, Go.Value.int Go.IntKind.i64 x_33, Go.Value.bool x_34]) w') ∧ (∀ (g : Nat) (w'_1 : Go.World),
 Go.Sx.Fresh (Go.World.drew w') g w'_1 [Go.Value.slice x_11 x_12 x_13] (36 : Nat) → S w'_1 ∧ (Go.Sx.CallsV Go.Proofs.Try.prog (73 : Nat) #[Go.Value.slice x_16 x_17 x_18] w'_1 fun (v : Go.Value) (w' :
 Go.World) => ∃ (x_21 : Option Go.Addr), ∃ (x_22 : Nat), ∃ (x_23 : Nat), v = Go.Value.slice x_21 x_22 x_23 ∧ S w' ∧ (Go.Sx.CallsV Go.Proofs.Try.prog (74 : Nat) #[Go.Value.slice x_21 x_22 x_23,
 Go.Value.int Go.IntKind.i64 x_6, Go.Value.slice (Option.some (Go.Addr.mk g (0 : Nat) Option.none)) (1 : Nat) (1 : Nat)] w' fun (v : Go.Value) (w' : Go.World) => ∃ (x_24 : Option Go.Addr), ∃ (x_25 :
 Nat), ∃ (x_26 : Nat), v = Go.Value.slice x_24 x_25 x_26 ∧ S w' ∧ (Go.Sx.CallsV Go.Proofs.Try.prog (63 : Nat) #[Go.Value.slice x x_19 x_20] w' fun (v : Go.Value) (w' : Go.World) => ∃ (x : Option
 Go.Addr), ∃ (x_27 : Nat), ∃ (x_28 : Nat), v = Go.Value.slice x x_27 x_28 ∧ ∀ (g : Nat) (w'_2 : Go.World), Go.Sx.Fresh w' g w'_2 [Go.Value.int Go.IntKind.i64 x_14] (3 : Nat) → Go.Sx.CallsV
 Go.Proofs.Try.prog (76 : Nat) #[Go.Value.slice x x_27 x_28, Go.Value.int Go.IntKind.i64 (Go.IntKind.wrap Go.IntKind.i64 (x_6 + (1 : Int))), Go.Value.slice (Option.some (Go.Addr.mk g (0 : Nat)
 Option.none)) (1 : Nat) (1 : Nat)] w'_2 fun (v : Go.Value) (w' : Go.World) => ∃ (x : Option Go.Addr), ∃ (x_29 : Nat), ∃ (x_30 : Nat), v = Go.Value.slice x x_29 x_30 ∧ ∀ (g : Nat) (w'_3 : Go.World),
 Go.Sx.Fresh w' g w'_3 [Go.Value.slice x_24 x_25 x_26, Go.Value.slice Option.none (0 : Nat) (0 : Nat), Go.Value.slice x x_29 x_30] (92 : Nat) → Go.Sx.CallsV Go.Proofs.Try.prog (75 : Nat)
 #[Go.Value.pointer a, Go.Value.int Go.IntKind.i64 i, Go.Value.pointer (Option.some (Go.Addr.mk g (0 : Nat) Option.none))] w'_3 fun (v : Go.Value) (w' : Go.World) => ∃ (x : Option Go.Addr), ∃ (x_31 :
 Nat), ∃ (x_32 : Nat), ∃ (x_33 : Int), ∃ (x_34 : Bool), v = Go.Value.tuple #[Go.Value.slice x x_31 x_32, Go.Value.int Go.IntKind.i64 x_33, Go.Value.bool x_34] ∧ K (Go.Value.tuple #[Go.Value.slice x x_31
 x_32, Go.Value.int Go.IntKind.i64 x_33, Go.Value.bool x_34]) w') ∧ ∀ (g : Nat) (w'_2 : Go.World), Go.Sx.Fresh w' g w'_2 [Go.Value.int Go.IntKind.i64 x_14] (3 : Nat) → S w'_2 ∧ Go.Sx.CallsV
 Go.Proofs.Try.prog (63 : Nat) #[Go.Value.slice x x_19 x_20] w'_2 fun (v : Go.Value) (w' : Go.World) => ∃ (x : Option Go.Addr), ∃ (x_27 : Nat), ∃ (x_28 : Nat), v = Go.Value.slice x x_27 x_28 ∧
 Go.Sx.CallsV Go.Proofs.Try.prog (76 : Nat) #[Go.Value.slice x x_27 x_28, Go.Value.int Go.IntKind.i64 (Go.IntKind.wrap Go.IntKind.i64 (x_6 + (1 : Int))), Go.Value.slice (Option.some (Go.Addr.mk g (0 :
 Nat) Option.none)) (1 : Nat) (1 : Nat)] w' fun (v : Go.Value) (w' : Go.World) => ∃ (x : Option Go.Addr), ∃ (x_29 : Nat), ∃ (x_30 : Nat), v = Go.Value.slice x x_29 x_30 ∧ ∀ (g : Nat) (w'_3 : Go.World),
 Go.Sx.Fresh w' g w'_3 [Go.Value.slice x_24 x_25 x_26, Go.Value.slice Option.none (0 : Nat) (0 : Nat), Go.Value.slice x x_29 x_30] (92 : Nat) → Go.Sx.CallsV Go.Proofs.Try.prog (75 : Nat)
 #[Go.Value.pointer a, Go.Value.int Go.IntKind.i64 i, Go.Value.pointer (Option.some (Go.Addr.mk g (0 : Nat) Option.none))] w'_3 fun (v : Go.Value) (w' : Go.World) => ∃ (x : Option Go.Addr), ∃ (x_31 :
 Nat), ∃ (x_32 : Nat), ∃ (x_33 : Int), ∃ (x_34 : Bool), v = Go.Value.tuple #[Go.Value.slice x x_31 x_32, Go.Value.int Go.IntKind.i64 x_33, Go.Value.bool x_34] ∧ K (Go.Value.tuple #[Go.Value.slice x x_31
 x_32, Go.Value.int Go.IntKind.i64 x_33, Go.Value.bool x_34]) w') ∧ ∀ (g_1 : Nat) (w'_2 : Go.World), Go.Sx.Fresh w' g_1 w'_2 [Go.Value.int Go.IntKind.i64 x_14] (3 : Nat) → S w'_2 ∧ Go.Sx.CallsV
 Go.Proofs.Try.prog (74 : Nat) #[Go.Value.slice x_21 x_22 x_23, Go.Value.int Go.IntKind.i64 x_6, Go.Value.slice (Option.some (Go.Addr.mk g (0 : Nat) Option.none)) (1 : Nat) (1 : Nat)] w'_2 fun (v :
 Go.Value) (w' : Go.World) => ∃ (x_24 : Option Go.Addr), ∃ (x_25 : Nat), ∃ (x_26 : Nat), v = Go.Value.slice x_24 x_25 x_26 ∧ S w' ∧ Go.Sx.CallsV Go.Proofs.Try.prog (63 : Nat) #[Go.Value.slice x x_19
 x_20] w' fun (v : Go.Value) (w' : Go.World) => ∃ (x : Option Go.Addr), ∃ (x_27 : Nat), ∃ (x_28 : Nat), v = Go.Value.slice x x_27 x_28 ∧ Go.Sx.CallsV Go.Proofs.Try.prog (76 : Nat) #[Go.Value.slice x
 x_27 x_28, Go.Value.int Go.IntKind.i64 (Go.IntKind.wrap Go.IntKind.i64 (x_6 + (1 : Int))), Go.Value.slice (Option.some (Go.Addr.mk g_1 (0 : Nat) Option.none)) (1 : Nat) (1 : Nat)] w' fun (v : Go.Value)
 (w' : Go.World) => ∃ (x : Option Go.Addr), ∃ (x_29 : Nat), ∃ (x_30 : Nat), v = Go.Value.slice x x_29 x_30 ∧ ∀ (g : Nat) (w'_3 : Go.World), Go.Sx.Fresh w' g w'_3 [Go.Value.slice x_24 x_25 x_26,
 Go.Value.slice Option.none (0 : Nat) (0 : Nat), Go.Value.slice x x_29 x_30] (92 : Nat) → Go.Sx.CallsV Go.Proofs.Try.prog (75 : Nat) #[Go.Value.pointer a, Go.Value.int Go.IntKind.i64 i, Go.Value.pointer
 (Option.some (Go.Addr.mk g (0 : Nat) Option.none))] w'_3 fun (v : Go.Value) (w' : Go.World) => ∃ (x : Option Go.Addr), ∃ (x_31 : Nat), ∃ (x_32 : Nat), ∃ (x_33 : Int), ∃ (x_34 : Bool), v =
 Go.Value.tuple #[Go.Value.slice x x_31 x_32, Go.Value.int Go.IntKind.i64 x_33, Go.Value.bool x_34] ∧ K (Go.Value.tuple #[Go.Value.slice x x_31 x_32, Go.Value.int Go.IntKind.i64 x_33, Go.Value.bool
 x_34]) w') ∧ ∀ (g_1 : Nat) (w' : Go.World), Go.Sx.Fresh w'_1 g_1 w' [Go.Value.int Go.IntKind.i64 x_14] (3 : Nat) → S w' ∧ Go.Sx.CallsV Go.Proofs.Try.prog (73 : Nat) #[Go.Value.slice x_16 x_17 x_18] w'
 fun (v : Go.Value) (w' : Go.World) => ∃ (x_21 : Option Go.Addr), ∃ (x_22 : Nat), ∃ (x_23 : Nat), v = Go.Value.slice x_21 x_22 x_23 ∧ S w' ∧ Go.Sx.CallsV Go.Proofs.Try.prog (74 : Nat) #[Go.Value.slice
 x_21 x_22 x_23, Go.Value.int Go.IntKind.i64 x_6, Go.Value.slice (Option.some (Go.Addr.mk g (0 : Nat) Option.none)) (1 : Nat) (1 : Nat)] w' fun (v : Go.Value) (w' : Go.World) => ∃ (x_24 : Option
 Go.Addr), ∃ (x_25 : Nat), ∃ (x_26 : Nat), v = Go.Value.slice x_24 x_25 x_26 ∧ S w' ∧ Go.Sx.CallsV Go.Proofs.Try.prog (63 : Nat) #[Go.Value.slice x x_19 x_20] w' fun (v : Go.Value) (w' : Go.World) => ∃
 (x : Option Go.Addr), ∃ (x_27 : Nat), ∃ (x_28 : Nat), v = Go.Value.slice x x_27 x_28 ∧ Go.Sx.CallsV Go.Proofs.Try.prog (76 : Nat) #[Go.Value.slice x x_27 x_28, Go.Value.int Go.IntKind.i64
 (Go.IntKind.wrap Go.IntKind.i64 (x_6 + (1 : Int))), Go.Value.slice (Option.some (Go.Addr.mk g_1 (0 : Nat) Option.none)) (1 : Nat) (1 : Nat)] w' fun (v : Go.Value) (w' : Go.World) => ∃ (x : Option
 Go.Addr), ∃ (x_29 : Nat), ∃ (x_30 : Nat), v = Go.Value.slice x x_29 x_30 ∧ ∀ (g : Nat) (w'_2 : Go.World), Go.Sx.Fresh w' g w'_2 [Go.Value.slice x_24 x_25 x_26, Go.Value.slice Option.none (0 : Nat) (0 :
 Nat), Go.Value.slice x x_29 x_30] (92 : Nat) → Go.Sx.CallsV Go.Proofs.Try.prog (75 : Nat) #[Go.Value.pointer a, Go.Value.int Go.IntKind.i64 i, Go.Value.pointer (Option.some (Go.Addr.mk g (0 : Nat)
 Option.none))] w'_2 fun (v : Go.Value) (w' : Go.World) => ∃ (x : Option Go.Addr), ∃ (x_31 : Nat), ∃ (x_32 : Nat), ∃ (x_33 : Int), ∃ (x_34 : Bool), v = Go.Value.tuple #[Go.Value.slice x x_31 x_32,
 Go.Value.int Go.IntKind.i64 x_33, Go.Value.bool x_34] ∧ K (Go.Value.tuple #[Go.Value.slice x x_31 x_32, Go.Value.int Go.IntKind.i64 x_33, Go.Value.bool x_34]) w') ∧ ∀ (g : Nat) (w'_1 : Go.World),
 Go.Sx.Fresh (Go.World.drew w') g w'_1 [Go.Value.int Go.IntKind.i64 x_14] (3 : Nat) → S w'_1 ∧ (Go.Sx.CallsV Go.Proofs.Try.prog (73 : Nat) #[Go.Value.slice x_16 x_17 x_18] w'_1 fun (v : Go.Value) (w' :
 Go.World) => ∃ (x_21 : Option Go.Addr), ∃ (x_22 : Nat), ∃ (x_23 : Nat), v = Go.Value.slice x_21 x_22 x_23 ∧ S w' ∧ ∀ (g_1 : Nat) (w'_2 : Go.World), Go.Sx.Fresh w' g_1 w'_2 [Go.Value.slice x_11 x_12
 x_13] (36 : Nat) → S w'_2 ∧ Go.Sx.CallsV Go.Proofs.Try.prog (74 : Nat) #[Go.Value.slice x_21 x_22 x_23, Go.Value.int Go.IntKind.i64 x_6, Go.Value.slice (Option.some (Go.Addr.mk g_1 (0 : Nat)
 Option.none)) (1 : Nat) (1 : Nat)] w'_2 fun (v : Go.Value) (w' : Go.World) => ∃ (x_24 : Option Go.Addr), ∃ (x_25 : Nat), ∃ (x_26 : Nat), v = Go.Value.slice x_24 x_25 x_26 ∧ S w' ∧ Go.Sx.CallsV
 Go.Proofs.Try.prog (63 : Nat) #[Go.Value.slice x x_19 x_20] w' fun (v : Go.Value) (w' : Go.World) => ∃ (x : Option Go.Addr), ∃ (x_27 : Nat), ∃ (x_28 : Nat), v = Go.Value.slice x x_27 x_28 ∧
 Go.Sx.CallsV Go.Proofs.Try.prog (76 : Nat) #[Go.Value.slice x x_27 x_28, Go.Value.int Go.IntKind.i64 (Go.IntKind.wrap Go.IntKind.i64 (x_6 + (1 : Int))), Go.Value.slice (Option.some (Go.Addr.mk g (0 :
 Nat) Option.none)) (1 : Nat) (1 : Nat)] w' fun (v : Go.Value) (w' : Go.World) => ∃ (x : Option Go.Addr), ∃ (x_29 : Nat), ∃ (x_30 : Nat), v = Go.Value.slice x x_29 x_30 ∧ ∀ (g : Nat) (w'_3 : Go.World),
 Go.Sx.Fresh w' g w'_3 [Go.Value.slice x_24 x_25 x_26, Go.Value.slice Option.none (0 : Nat) (0 : Nat), Go.Value.slice x x_29 x_30] (92 : Nat) → Go.Sx.CallsV Go.Proofs.Try.prog (75 : Nat)
 #[Go.Value.pointer a, Go.Value.int Go.IntKind.i64 i, Go.Value.pointer (Option.some (Go.Addr.mk g (0 : Nat) Option.none))] w'_3 fun (v : Go.Value) (w' : Go.World) => ∃ (x : Option Go.Addr), ∃ (x_31 :
 Nat), ∃ (x_32 : Nat), ∃ (x_33 : Int), ∃ (x_34 : Bool), v = Go.Value.tuple #[Go.Value.slice x x_31 x_32, Go.Value.int Go.IntKind.i64 x_33, Go.Value.bool x_34] ∧ K (Go.Value.tuple #[Go.Value.slice x x_31
 x_32, Go.Value.int Go.IntKind.i64 x_33, Go.Value.bool x_34]) w') ∧ ∀ (g_1 : Nat) (w' : Go.World), Go.Sx.Fresh w'_1 g_1 w' [Go.Value.slice x_11 x_12 x_13] (36 : Nat) → S w' ∧ Go.Sx.CallsV
 Go.Proofs.Try.prog (73 : Nat) #[Go.Value.slice x_16 x_17 x_18] w' fun (v : Go.Value) (w' : Go.World) => ∃ (x_21 : Option Go.Addr), ∃ (x_22 : Nat), ∃ (x_23 : Nat), v = Go.Value.slice x_21 x_22 x_23 ∧ S
 w' ∧ Go.Sx.CallsV Go.Proofs.Try.prog (74 : Nat) #[Go.Value.slice x_21 x_22 x_23, Go.Value.int Go.IntKind.i64 x_6, Go.Value.slice (Option.some (Go.Addr.mk g_1 (0 : Nat) Option.none)) (1 : Nat) (1 :
 Nat)] w' fun (v : Go.Value) (w' : Go.World) => ∃ (x_24 : Option Go.Addr), ∃ (x_25 : Nat), ∃ (x_26 : Nat), v = Go.Value.slice x_24 x_25 x_26 ∧ S w' ∧ Go.Sx.CallsV Go.Proofs.Try.prog (63 : Nat)
 #[Go.Value.slice x x_19 x_20] w' fun (v : Go.Value) (w' : Go.World) => ∃ (x : Option Go.Addr), ∃ (x_27 : Nat), ∃ (x_28 : Nat), v = Go.Value.slice x x_27 x_28 ∧ Go.Sx.CallsV Go.Proofs.Try.prog (76 :
 Nat) #[Go.Value.slice x x_27 x_28, Go.Value.int Go.IntKind.i64 (Go.IntKind.wrap Go.IntKind.i64 (x_6 + (1 : Int))), Go.Value.slice (Option.some (Go.Addr.mk g (0 : Nat) Option.none)) (1 : Nat) (1 : Nat)]
 w' fun (v : Go.Value) (w' : Go.World) => ∃ (x : Option Go.Addr), ∃ (x_29 : Nat), ∃ (x_30 : Nat), v = Go.Value.slice x x_29 x_30 ∧ ∀ (g : Nat) (w'_2 : Go.World), Go.Sx.Fresh w' g w'_2 [Go.Value.slice
 x_24 x_25 x_26, Go.Value.slice Option.none (0 : Nat) (0 : Nat), Go.Value.slice x x_29 x_30] (92 : Nat) → Go.Sx.CallsV Go.Proofs.Try.prog (75 : Nat) #[Go.Value.pointer a, Go.Value.int Go.IntKind.i64 i,
 Go.Value.pointer (Option.some (Go.Addr.mk g (0 : Nat) Option.none))] w'_2 fun (v : Go.Value) (w' : Go.World) => ∃ (x : Option Go.Addr), ∃ (x_31 : Nat), ∃ (x_32 : Nat), ∃ (x_33 : Int), ∃ (x_34 : Bool),
 v = Go.Value.tuple #[Go.Value.slice x x_31 x_32, Go.Value.int Go.IntKind.i64 x_33, Go.Value.bool x_34] ∧ K (Go.Value.tuple #[Go.Value.slice x x_31 x_32, Go.Value.int Go.IntKind.i64 x_33, Go.Value.bool
 x_34]) w'
theorem tree_Arena_put.eq (a : Option Addr) (i : Int) (key_A : Option Addr) (key_n : Nat) (key_c : Nat) (val_A : Option Addr) (val_n : Nat) (val_c : Nat) (w : World) (K : Value → World → Prop) : tree_Arena_put.W a i key_A key_n key_c val_A val_n val_c w K = fnW Try.prog Try.f50 (.named (.seq .auto (.seq .auto (.seq (.seq .auto (.cond (.seq .auto (.join [(14, .one .ptr)] .auto .auto)) .auto)) .auto)))) [.pointer a, .int .i64 i, .slice key_A key_n key_c, .slice val_A val_n val_c] w K := by kernel_rfl
theorem tree_Arena_put.calls (ok : Okay Try.prog) {a : Option Addr} {i : Int} {key_A : Option Addr} {key_n : Nat} {key_c : Nat} {val_A : Option Addr} {val_n : Nat} {val_c : Nat} {w : World} {K : Value → World → Prop} (h : tree_Arena_put.W a i key_A key_n key_c val_A val_n val_c w K) : CallsV Try.prog 50 #[.pointer a, .int .i64 i, .slice key_A key_n key_c, .slice val_A val_n val_c] w K :=
  fnW_calls ok Try.func50 (an := (.named (.seq .auto (.seq .auto (.seq (.seq .auto (.cond (.seq .auto (.join [(14, .one .ptr)] .auto .auto)) .auto)) .auto))))) (args := [.pointer a, .int .i64 i, .slice key_A key_n key_c, .slice val_A val_n val_c]) (by rw [← tree_Arena_put.eq]; exact h)
noncomputable def tree_Arena_shape.W : Option Addr → Int → Option Addr → Nat → Nat → Option Addr → Nat → Nat → Bool → World → (Value → World → Prop) → Prop := fun (a : Option Go.Addr) (i : Int) (lo_A :
 Option Go.Addr) (lo_n lo_c : Nat) (hi_A : Option Go.Addr) (hi_n hi_c : Nat) (top : Bool) (w : Go.World) (K : Go.Value → Go.World → Prop) => ∃ (a_1 : Go.Addr), a = Option.some a_1 ∧ ∃ (x : Option
 Go.Addr), ∃ (x_1 : Nat), ∃ (x_2 : Nat), Go.World.cell? w (Go.Addr.add a_1 (2 : Nat)) = Option.some (Go.Value.slice x x_1 x_2) ∧ ∃ (ad : Go.Addr), x = Option.some ad ∧ ((0 : Int) ≤ i ∧ i < (↑x_1 : Int))
 ∧ ∃ (x : Option Go.Addr), Go.World.cell? w (Go.Addr.add ad (Int.toNat i * (1 : Nat))) = Option.some (Go.Value.pointer x) ∧ ∃ (J : Go.World → Prop), (∀ (w : Go.World), J w → ∃ (a_3 : Go.Addr), x =
 Option.some a_3 ∧ ∃ (x_3 : Option Go.Addr), ∃ (x_4 : Nat), ∃ (x_5 : Nat), Go.World.cell? w (Go.Addr.add a_3 (0 : Nat)) = Option.some (Go.Value.slice x_3 x_4 x_5) ∧ ∃ (I : Int → Go.World → Prop), ∃ (μ :
 Int → Go.World → Nat), I (0 : Int) w ∧ ∀ (x_6 : Int) (w : Go.World), I x_6 w → bif Decidable.decide (x_6 < (↑x_4 : Int)) then ∃ (ad : Go.Addr), x_3 = Option.some ad ∧ ((0 : Int) ≤ x_6 ∧ x_6 < (↑x_4 :
 Int)) ∧ ∃ (x_7 : Option Go.Addr), ∃ (x_8 : Nat), ∃ (x_9 : Nat), Go.World.cell? w (Go.Addr.add ad (Int.toNat x_6 * (1 : Nat))) = Option.some (Go.Value.slice x_7 x_8 x_9) ∧ bif Decidable.decide ((0 :
 Int) < x_6) then ∃ (a : Go.Addr), x = Option.some a ∧ ∃ (x : Option Go.Addr), ∃ (x_10 : Nat), ∃ (x_11 : Nat), Go.World.cell? w (Go.Addr.add a (0 : Nat)) = Option.some (Go.Value.slice x x_10 x_11) ∧ ∃
 (ad : Go.Addr), x = Option.some ad ∧ ((0 : Int) ≤ Go.IntKind.wrap Go.IntKind.i64 (x_6 - (1 : Int)) ∧ Go.IntKind.wrap Go.IntKind.i64 (x_6 - (1 : Int)) < (↑x_10 : Int)) ∧ ∃ (x : Option Go.Addr), ∃ (x_12
 : Nat), ∃ (x_13 : Nat), Go.World.cell? w (Go.Addr.add ad (Int.toNat (Go.IntKind.wrap Go.IntKind.i64 (x_6 - (1 : Int))) * (1 : Nat))) = Option.some (Go.Value.slice x x_12 x_13) ∧ Go.Sx.CallsV
 Go.Proofs.Try.prog (48 : Nat) #[Go.Value.slice x x_12 x_13, Go.Value.slice x_7 x_8 x_9] w fun (v : Go.Value) (w' : Go.World) => ∃ (x : Int), v = Go.Value.int Go.IntKind.i64 x ∧ bif Decidable.decide ((0
 : Int) ≤ x) then K (Go.Value.int Go.IntKind.i64 (0 : Int)) w' else bif !Option.isNone lo_A then Go.Sx.CallsV Go.Proofs.Try.prog (48 : Nat) #[Go.Value.slice x_7 x_8 x_9, Go.Value.slice lo_A lo_n lo_c]
 w' fun (v : Go.Value) (w' : Go.World) => ∃ (x : Int), v = Go.Value.int Go.IntKind.i64 x ∧ bif Decidable.decide (x < (0 : Int)) then K (Go.Value.int Go.IntKind.i64 (0 : Int)) w' else bif !Option.isNone
 hi_A then Go.Sx.CallsV Go.Proofs.Try.prog (48 : Nat) #[Go.Value.slice x_7 x_8 x_9, Go.Value.slice hi_A hi_n hi_c] w' fun (v : Go.Value) (w' : Go.World) => ∃ (x : Int), v = Go.Value.int Go.IntKind.i64 x
 ∧ bif Decidable.decide ((0 : Int) ≤ x) then K (Go.Value.int Go.IntKind.i64 (0 : Int)) w' else I (Go.IntKind.wrap Go.IntKind.i64 (x_6 + (1 : Int))) w' ∧ μ (Go.IntKind.wrap Go.IntKind.i64 (x_6 + (1 :
 Int))) w' < μ x_6 w else I (Go.IntKind.wrap Go.IntKind.i64 (x_6 + (1 : Int))) w' ∧ μ (Go.IntKind.wrap Go.IntKind.i64 (x_6 + (1 : Int))) w' < μ x_6 w else bif !Option.isNone hi_A then Go.Sx.CallsV
 Go.Proofs.Try.prog (48 : Nat) #[Go.Value.slice x_7 x_8 x_9, Go.Value.slice hi_A hi_n hi_c] w' fun (v : Go.Value) (w' : Go.World) => ∃ (x : Int), v = Go.Value.int Go.IntKind.i64 x ∧ bif Decidable.decide
 ((0 : Int) ≤ x) then K (Go.Value.int Go.IntKind.i64 (0 : Int)) w' else I (Go.IntKind.wrap Go.IntKind.i64 (x_6 + (1 : Int))) w' ∧ μ (Go.IntKind.wrap Go.IntKind.i64 (x_6 + (1 : Int))) w' < μ x_6 w else I
 (Go.IntKind.wrap Go.IntKind.i64 (x_6 + (1 : Int))) w' ∧ μ (Go.IntKind.wrap Go.IntKind.i64 (x_6 + (1 : Int))) w' < μ x_6 w else bif !Option.isNone lo_A then Go.Sx.CallsV Go.Proofs.Try.prog (48 : Nat)
 #[Go.Value.slice x_7 x_8 x_9, Go.Value.slice lo_A lo_n lo_c] w fun (v : Go.Value) (w' : Go.World) => ∃ (x : Int), v = Go.Value.int Go.IntKind.i64 x ∧ bif Decidable.decide (x < (0 : Int)) then K
 (Go.Value.int Go.IntKind.i64 (0 : Int)) w' else bif !Option.isNone hi_A then Go.Sx.CallsV Go.Proofs.Try.prog (48 : Nat) #[Go.Value.slice x_7 x_8 x_9, Go.Value.slice hi_A hi_n hi_c] w' fun (v :
 Go.Value) (w' : Go.World) => ∃ (x : Int), v = Go.Value.int Go.IntKind.i64 x ∧ bif Decidable.decide ((0 : Int) ≤ x) then K (Go.Value.int Go.IntKind.i64 (0 : Int)) w' else I (Go.IntKind.wrap
 Go.IntKind.i64 (x_6 + (1 : Int))) w' ∧ μ (Go.IntKind.wrap Go.IntKind.i64 (x_6 + (1 : Int))) w' < μ x_6 w else I (Go.IntKind.wrap Go.IntKind.i64 (x_6 + (1 : Int))) w' ∧ μ (Go.IntKind.wrap Go.IntKind.i64
 (x_6 + (1 : Int))) w' < μ x_6 w else bif !Option.isNone hi_A then Go.Sx.CallsV Go.Proofs.Try.prog (48 : Nat) #[Go.Value.slice x_7 x_8 x_9, Go.Value.slice hi_A hi_n hi_c] w fun (v : Go.Value) (w' :
 Go.World) => ∃ (x : Int), v = Go.Value.int Go.IntKind.i64 x ∧ bif Decidable.decide ((0 : Int) ≤ x) then K (Go.Value.int Go.IntKind.i64 (0 : Int)) w' else I (Go.IntKind.wrap Go.IntKind.i64 (x_6 + (1 :
 Int))) w' ∧ μ (Go.IntKind.wrap Go.IntKind.i64 (x_6 + (1 : Int))) w' < μ x_6 w else I (Go.IntKind.wrap Go.IntKind.i64 (x_6 + (1 : Int))) w ∧ μ (Go.IntKind.wrap Go.IntKind.i64 (x_6 + (1 : Int))) w < μ
 x_6 w else ∃ (a_5 : Go.Addr), x = Option.some a_5 ∧ ∃ (x_7 : Option Go.Addr), ∃ (x_8 : Nat), ∃ (x_9 : Nat), Go.World.cell? w (Go.Addr.add a_5 (2 : Nat)) = Option.some (Go.Value.slice x_7 x_8 x_9) ∧ bif
 Option.isNone x_7 then K (Go.Value.int Go.IntKind.i64 (1 : Int)) w else ∃ (a_6 : Go.Addr), x = Option.some a_6 ∧ ∃ (S : Go.World → Prop), S (Go.World.drew w) ∧ ∃ (x_10 : Option Go.Addr), ∃ (x_11 :
 Nat), ∃ (x_12 : Nat), (∀ (u : Go.World), S u → Go.World.cell? u (Go.Addr.add a_6 (0 : Nat)) = Option.some (Go.Value.slice x_10 x_11 x_12)) ∧ ∃ (a_7 : Go.Addr), x = Option.some a_7 ∧ ∃ (x_13 : Option
 Go.Addr), ∃ (x_14 : Nat), ∃ (x_15 : Nat), (∀ (u : Go.World), S u → Go.World.cell? u (Go.Addr.add a_7 (2 : Nat)) = Option.some (Go.Value.slice x_13 x_14 x_15)) ∧ bif !Decidable.decide ((↑x_11 : Int) =
 Go.IntKind.wrap Go.IntKind.i64 ((↑x_14 : Int) - (1 : Int))) then K (Go.Value.int Go.IntKind.i64 (0 : Int)) (Go.World.drew w) else ∃ (a_8 : Go.Addr), x = Option.some a_8 ∧ ∃ (x_16 : Option Go.Addr), ∃
 (x_17 : Nat), ∃ (x_18 : Nat), Go.World.cell? (Go.World.drew w) (Go.Addr.add a_8 (2 : Nat)) = Option.some (Go.Value.slice x_16 x_17 x_18) ∧ ∃ (I : Int → Int → Go.World → Prop), ∃ (μ : Int → Int →
 Go.World → Nat), I (0 : Int) (0 : Int) (Go.World.drew w) ∧ ∀ (x_19 x_20 : Int) (w : Go.World), I x_19 x_20 w → bif Decidable.decide (x_20 < (↑x_17 : Int)) then ∃ (ad : Go.Addr), x_16 = Option.some ad ∧
 ((0 : Int) ≤ x_20 ∧ x_20 < (↑x_17 : Int)) ∧ ∃ (x_21 : Int), Go.World.cell? w (Go.Addr.add ad (Int.toNat x_20 * (1 : Nat))) = Option.some (Go.Value.int Go.IntKind.i64 x_21) ∧ ∃ (J : Option Go.Addr → Nat
 → Nat → Go.World → Prop), (∀ (x_22 : Option Go.Addr) (x_23 x_24 : Nat) (w_1 : Go.World), J x_22 x_23 x_24 w_1 → ∃ (J : Option Go.Addr → Nat → Nat → Go.World → Prop), (∀ (x : Option Go.Addr) (x_25 x_26
 : Nat) (w_2 : Go.World), J x x_25 x_26 w_2 → Go.Sx.CallsV Go.Proofs.Try.prog (52 : Nat) #[Go.Value.pointer a, Go.Value.int Go.IntKind.i64 x_21, Go.Value.slice x_22 x_23 x_24, Go.Value.slice x x_25
 x_26, Go.Value.bool Bool.false] w_2 fun (v : Go.Value) (w' : Go.World) => ∃ (x : Int), v = Go.Value.int Go.IntKind.i64 x ∧ bif Decidable.decide (x = (0 : Int)) then K (Go.Value.int Go.IntKind.i64 (0 :
 Int)) w' else bif Decidable.decide ((0 : Int) < x_20) then bif !Decidable.decide (x = x_19) then K (Go.Value.int Go.IntKind.i64 (0 : Int)) w' else I x (Go.IntKind.wrap Go.IntKind.i64 (x_20 + (1 :
 Int))) w' ∧ μ x (Go.IntKind.wrap Go.IntKind.i64 (x_20 + (1 : Int))) w' < μ x_19 x_20 w else I x (Go.IntKind.wrap Go.IntKind.i64 (x_20 + (1 : Int))) w' ∧ μ x (Go.IntKind.wrap Go.IntKind.i64 (x_20 + (1 :
 Int))) w' < μ x_19 x_20 w) ∧ ∃ (a : Go.Addr), x = Option.some a ∧ ∃ (x_25 : Option Go.Addr), ∃ (x_26 : Nat), ∃ (x_27 : Nat), Go.World.cell? w_1 (Go.Addr.add a (0 : Nat)) = Option.some (Go.Value.slice
 x_25 x_26 x_27) ∧ bif Decidable.decide (x_20 < (↑x_26 : Int)) then ∃ (a : Go.Addr), x = Option.some a ∧ ∃ (x : Option Go.Addr), ∃ (x_28 : Nat), ∃ (x_29 : Nat), Go.World.cell? w_1 (Go.Addr.add a (0 :
 Nat)) = Option.some (Go.Value.slice x x_28 x_29) ∧ ∃ (ad : Go.Addr), x = Option.some ad ∧ ((0 : Int) ≤ x_20 ∧ x_20 < (↑x_28 : Int)) ∧ ∃ (x : Option Go.Addr), ∃ (x_30 : Nat), ∃ (x_31 : Nat),
 Go.World.cell? w_1 (Go.Addr.add ad (Int.toNat x_20 * (1 : Nat))) = Option.some (Go.Value.slice x x_30 x_31) ∧ J x x_30 x_31 w_1 else J hi_A hi_n hi_c w_1) ∧ bif Decidable.decide ((0 : Int) < x_20) then
 ∃ (a : Go.Addr), x = Option.some a ∧ ∃ (x : Option Go.Addr), ∃ (x_22 : Nat), ∃ (x_23 : Nat), Go.World.cell? w (Go.Addr.add a (0 : Nat)) = Option.some (Go.Value.slice x x_22 x_23) ∧ ∃ (ad : Go.Addr), x
 = Option.some ad ∧ ((0 : Int) ≤ Go.IntKind.wrap Go.IntKind.i64 (x_20 - (1 : Int)) ∧ Go.IntKind.wrap Go.IntKind.i64 (x_20 - (1 : Int)) < (↑x_22 : Int)) ∧ ∃ (x : Option Go.Addr), ∃ (x_24 : Nat), ∃ (x_25
 : Nat), Go.World.cell? w (Go.Addr.add ad (Int.toNat (Go.IntKind.wrap Go.IntKind.i64 (x_20 - (1 : Int))) * (1 : Nat))) = Option.some (Go.Value.slice x x_24 x_25) ∧ J x x_24 x_25 w else J lo_A lo_n lo_c
 w else K (Go.Value.int Go.IntKind.i64 (Go.IntKind.wrap Go.IntKind.i64 (x_19 + (1 : Int)))) w) ∧ bif Option.isNone x then K (Go.Value.int Go.IntKind.i64 (0 : Int)) (Go.World.drew w) else ∃ (a_2 :
 Go.Addr), a = Option.some a_2 ∧ ∃ (S : Go.World → Prop), S (Go.World.drew w) ∧ ∃ (x_3 : Int), (∀ (u : Go.World), S u → Go.World.cell? u (Go.Addr.add a_2 (0 : Nat)) = Option.some (Go.Value.int
 Go.IntKind.i64 x_3)) ∧ Go.Sx.CallsV Go.Proofs.Try.prog (72 : Nat) #[Go.Value.pointer x] (Go.World.drew w) fun (v : Go.Value) (w' : Go.World) => ∃ (x_4 : Int), v = Go.Value.int Go.IntKind.i64 x_4 ∧ S w'
 ∧ bif Decidable.decide (x_3 < x_4) then K (Go.Value.int Go.IntKind.i64 (0 : Int)) w' else bif !top then ∃ (a_3 : Go.Addr), a = Option.some a_3 ∧ ∃ (S_1 : Go.World → Prop), S_1 w' ∧ ∃ (x_5 : Int), (∀ (u
 : Go.World), S_1 u → Go.World.cell? u (Go.Addr.add a_3 (0 : Nat)) = Option.some (Go.Value.int Go.IntKind.i64 x_5)) ∧ (2 : Int) ≠ (0 : Int) ∧ Go.Sx.CallsV Go.Proofs.Try.prog (72 : Nat)
 #[Go.Value.pointer x] w' fun (v : Go.Value) (w' : Go.World) => ∃ (x_6 : Int), v = Go.Value.int Go.IntKind.i64 x_6 ∧ S_1 w' ∧ S w' ∧ bif Decidable.decide (x_6 < Go.IntKind.wrap Go.IntKind.i64 (Int.tdiv
 x_5 (2 : Int))) then K (Go.Value.int Go.IntKind.i64 (0 : Int)) w' else bif top then ∃ (a : Go.Addr), x = Option.some a ∧ ∃ (S_2 : Go.World → Prop), S_2 w' ∧ ∃ (x_7 : Option Go.Addr), ∃ (x_8 : Nat), ∃
 (x_9 : Nat), (∀ (u : Go.World), S_2 u → Go.World.cell? u (Go.Addr.add a (2 : Nat)) = Option.some (Go.Value.slice x_7 x_8 x_9)) ∧ bif !Option.isNone x_7 then Go.Sx.CallsV Go.Proofs.Try.prog (72 : Nat)
 #[Go.Value.pointer x] w' fun (v : Go.Value) (w' : Go.World) => ∃ (x : Int), v = Go.Value.int Go.IntKind.i64 x ∧ S_2 w' ∧ S_1 w' ∧ S w' ∧ bif Decidable.decide (x < (2 : Int)) then K (Go.Value.int
 Go.IntKind.i64 (0 : Int)) w' else J w' else J w' else J w' else bif top then ∃ (a : Go.Addr), x = Option.some a ∧ ∃ (S_1 : Go.World → Prop), S_1 w' ∧ ∃ (x_5 : Option Go.Addr), ∃ (x_6 : Nat), ∃ (x_7 :
 Nat), (∀ (u : Go.World), S_1 u → Go.World.cell? u (Go.Addr.add a (2 : Nat)) = Option.some (Go.Value.slice x_5 x_6 x_7)) ∧ bif !Option.isNone x_5 then Go.Sx.CallsV Go.Proofs.Try.prog (72 : Nat)
 #[Go.Value.pointer x] w' fun (v : Go.Value) (w' : Go.World) => ∃ (x : Int), v = Go.Value.int Go.IntKind.i64 x ∧ S_1 w' ∧ S w' ∧ bif Decidable.decide (x < (2 : Int)) then K (Go.Value.int Go.IntKind.i64
 (0 : Int)) w' else J w' else J w' else J w'
theorem tree_Arena_shape.eq (a : Option Addr) (i : Int) (lo_A : Option Addr) (lo_n : Nat) (lo_c : Nat) (hi_A : Option Addr) (hi_n : Nat) (hi_c : Nat) (top : Bool) (w : World) (K : Value → World → Prop) : tree_Arena_shape.W a i lo_A lo_n lo_c hi_A hi_n hi_c top w K = fnW Try.prog Try.f52 (.named (.seq .auto (.seq .auto (.join [] .auto (.seq (.seq .auto (.block (.loop [(72, .one (.int .i64))] .auto))) (.seq .auto (.seq .auto (.seq .auto (.seq (.seq .auto (.block (.loop [(14, .one (.int .i64)), (135, .one (.int .i64))] (.seq .auto (.seq .auto (.seq (.block (.seq .auto (.seq .auto (.join [(17, .one .slc)] .auto (.join [(18, .one .slc)] .auto .auto))))) .auto)))))) .auto))))))))) [.pointer a, .int .i64 i, .slice lo_A lo_n lo_c, .slice hi_A hi_n hi_c, .bool top] w K := by kernel_rfl
theorem tree_Arena_shape.calls (ok : Okay Try.prog) {a : Option Addr} {i : Int} {lo_A : Option Addr} {lo_n : Nat} {lo_c : Nat} {hi_A : Option Addr} {hi_n : Nat} {hi_c : Nat} {top : Bool} {w : World} {K : Value → World → Prop} (h : tree_Arena_shape.W a i lo_A lo_n lo_c hi_A hi_n hi_c top w K) : CallsV Try.prog 52 #[.pointer a, .int .i64 i, .slice lo_A lo_n lo_c, .slice hi_A hi_n hi_c, .bool top] w K :=
  fnW_calls ok Try.func52 (an := (.named (.seq .auto (.seq .auto (.join [] .auto (.seq (.seq .auto (.block (.loop [(72, .one (.int .i64))] .auto))) (.seq .auto (.seq .auto (.seq .auto (.seq (.seq .auto (.block (.loop [(14, .one (.int .i64)), (135, .one (.int .i64))] (.seq .auto (.seq .auto (.seq (.block (.seq .auto (.seq .auto (.join [(17, .one .slc)] .auto (.join [(18, .one .slc)] .auto .auto))))) .auto)))))) .auto)))))))))) (args := [.pointer a, .int .i64 i, .slice lo_A lo_n lo_c, .slice hi_A hi_n hi_c, .bool top]) (by rw [← tree_Arena_shape.eq]; exact h)
noncomputable def tree_Arena_all.W : Option Addr → Int → World → (Value → World → Prop) → Prop := fun (a : Option Go.Addr) (i : Int) (w : Go.World) (K : Go.Value → Go.World → Prop) => ∀ (g : Nat) (w' :
 Go.World), Go.Sx.Fresh w g w' [Go.Value.pointer a] (24 : Nat) → ∀ (g_1 : Nat) (w'_1 : Go.World), Go.Sx.Fresh w' g_1 w'_1 [Go.Value.int Go.IntKind.i64 i] (3 : Nat) → K (Go.Value.func (Go.Fn.func (77 :
 Nat)) #[] #[Go.Value.pointer (Option.some (Go.Addr.mk g_1 (0 : Nat) Option.none)), Go.Value.pointer (Option.some (Go.Addr.mk g (0 : Nat) Option.none))]) w'_1
theorem tree_Arena_all.eq (a : Option Addr) (i : Int) (w : World) (K : Value → World → Prop) : tree_Arena_all.W a i w K = fnW Try.prog Try.f53 (.named .auto) [.pointer a, .int .i64 i] w K := by kernel_rfl
theorem tree_Arena_all.calls (ok : Okay Try.prog) {a : Option Addr} {i : Int} {w : World} {K : Value → World → Prop} (h : tree_Arena_all.W a i w K) : CallsV Try.prog 53 #[.pointer a, .int .i64 i] w K :=
  fnW_calls ok Try.func53 (an := (.named .auto)) (args := [.pointer a, .int .i64 i]) (by rw [← tree_Arena_all.eq]; exact h)
noncomputable def tree_node_below.W : Option Addr → Option Addr → Nat → Nat → World → (Value → World → Prop) → Prop := fun (n key_A : Option Go.Addr) (key_n key_c : Nat) (w : Go.World) (K : Go.Value →
 Go.World → Prop) => ∃ (a : Go.Addr), n = Option.some a ∧ ∃ (x : Option Go.Addr), ∃ (x_1 : Nat), ∃ (x_2 : Nat), Go.World.cell? w (Go.Addr.add a (0 : Nat)) = Option.some (Go.Value.slice x x_1 x_2) ∧
 Go.Sx.CallsV Go.Proofs.Try.prog (47 : Nat) #[Go.Value.slice x x_1 x_2, Go.Value.slice key_A key_n key_c, Go.Value.func (Go.Fn.func (48 : Nat)) #[] #[]] w fun (v : Go.Value) (w' : Go.World) => ∃ (x :
 Int), ∃ (x_3 : Bool), v = Go.Value.tuple #[Go.Value.int Go.IntKind.i64 x, Go.Value.bool x_3] ∧ bif x_3 then K (Go.Value.int Go.IntKind.i64 (Go.IntKind.wrap Go.IntKind.i64 (x + (1 : Int)))) w' else K
 (Go.Value.int Go.IntKind.i64 x) w'
theorem tree_node_below.eq (n : Option Addr) (key_A : Option Addr) (key_n : Nat) (key_c : Nat) (w : World) (K : Value → World → Prop) : tree_node_below.W n key_A key_n key_c w K = fnW Try.prog Try.f56 (.named .auto) [.pointer n, .slice key_A key_n key_c] w K := by kernel_rfl
theorem tree_node_below.calls (ok : Okay Try.prog) {n : Option Addr} {key_A : Option Addr} {key_n : Nat} {key_c : Nat} {w : World} {K : Value → World → Prop} (h : tree_node_below.W n key_A key_n key_c w K) : CallsV Try.prog 56 #[.pointer n, .slice key_A key_n key_c] w K :=
  fnW_calls ok Try.func56 (an := (.named .auto)) (args := [.pointer n, .slice key_A key_n key_c]) (by rw [← tree_node_below.eq]; exact h)
noncomputable def tree_entry.W : Option Addr → Int → World → (Value → World → Prop) → Prop := fun (n : Option Go.Addr) (k : Int) (w : Go.World) (K : Go.Value → Go.World → Prop) => bif Decidable.decide
 (k < (0 : Int)) then K (Go.Value.tuple #[Go.Value.slice Option.none (0 : Nat) (0 : Nat), Go.Value.slice Option.none (0 : Nat) (0 : Nat), Go.Value.bool Bool.false]) w else ∃ (a : Go.Addr), n =
 Option.some a ∧ ∃ (x : Option Go.Addr), ∃ (x_1 : Nat), ∃ (x_2 : Nat), Go.World.cell? w (Go.Addr.add a (0 : Nat)) = Option.some (Go.Value.slice x x_1 x_2) ∧ bif Decidable.decide ((↑x_1 : Int) ≤ k) then
 K (Go.Value.tuple #[Go.Value.slice Option.none (0 : Nat) (0 : Nat), Go.Value.slice Option.none (0 : Nat) (0 : Nat), Go.Value.bool Bool.false]) w else ∃ (a : Go.Addr), n = Option.some a ∧ ∃ (S :
 Go.World → Prop), S (Go.World.drew w) ∧ ∃ (x : Option Go.Addr), ∃ (x_3 : Nat), ∃ (x_4 : Nat), (∀ (u : Go.World), S u → Go.World.cell? u (Go.Addr.add a (0 : Nat)) = Option.some (Go.Value.slice x x_3
 x_4)) ∧ ∃ (ad : Go.Addr), x = Option.some ad ∧ ((0 : Int) ≤ k ∧ k < (↑x_3 : Int)) ∧ ∃ (x : Option Go.Addr), ∃ (x_5 : Nat), ∃ (x_6 : Nat), (∀ (u : Go.World), S u → Go.World.cell? u (Go.Addr.add ad
 (Int.toNat k * (1 : Nat))) = Option.some (Go.Value.slice x x_5 x_6)) ∧ ∃ (a : Go.Addr), n = Option.some a ∧ ∃ (x_7 : Option Go.Addr), ∃ (x_8 : Nat), ∃ (x_9 : Nat), (∀ (u : Go.World), S u →
 Go.World.cell? u (Go.Addr.add a (1 : Nat)) = Option.some (Go.Value.slice x_7 x_8 x_9)) ∧ ∃ (ad : Go.Addr), x_7 = Option.some ad ∧ ((0 : Int) ≤ k ∧ k < (↑x_8 : Int)) ∧ ∃ (x_10 : Option Go.Addr), ∃ (x_11
 : Nat), ∃ (x_12 : Nat), (∀ (u : Go.World), S u → Go.World.cell? u (Go.Addr.add ad (Int.toNat k * (1 : Nat))) = Option.some (Go.Value.slice x_10 x_11 x_12)) ∧ Go.Sx.CallsV Go.Proofs.Try.prog (51 : Nat)
 #[Go.Value.slice x x_5 x_6] (Go.World.drew w) fun (v : Go.Value) (w' : Go.World) => ∃ (x : Option Go.Addr), ∃ (x_13 : Nat), ∃ (x_14 : Nat), v = Go.Value.slice x x_13 x_14 ∧ S w' ∧ Go.Sx.CallsV
 Go.Proofs.Try.prog (51 : Nat) #[Go.Value.slice x_10 x_11 x_12] w' fun (v : Go.Value) (w' : Go.World) => ∃ (x_15 : Option Go.Addr), ∃ (x_16 : Nat), ∃ (x_17 : Nat), v = Go.Value.slice x_15 x_16 x_17 ∧ S
 w' ∧ K (Go.Value.tuple #[Go.Value.slice x x_13 x_14, Go.Value.slice x_15 x_16 x_17, Go.Value.bool Bool.true]) w'
theorem tree_entry.eq (n : Option Addr) (k : Int) (w : World) (K : Value → World → Prop) : tree_entry.W n k w K = fnW Try.prog Try.f57 (.named .auto) [.pointer n, .int .i64 k] w K := by kernel_rfl
theorem tree_entry.calls (ok : Okay Try.prog) {n : Option Addr} {k : Int} {w : World} {K : Value → World → Prop} (h : tree_entry.W n k w K) : CallsV Try.prog 57 #[.pointer n, .int .i64 k] w K :=
  fnW_calls ok Try.func57 (an := (.named .auto)) (args := [.pointer n, .int .i64 k]) (by rw [← tree_entry.eq]; exact h)
noncomputable def tree_Arena_end.W : Option Addr → Int → World → (Value → World → Prop) → Prop := fun (a : Option Go.Addr) (i : Int) (w : Go.World) (K : Go.Value → Go.World → Prop) => ∃ (a_1 :
 Go.Addr), a = Option.some a_1 ∧ ∃ (x : Option Go.Addr), ∃ (x_1 : Nat), ∃ (x_2 : Nat), Go.World.cell? w (Go.Addr.add a_1 (2 : Nat)) = Option.some (Go.Value.slice x x_1 x_2) ∧ ∃ (ad : Go.Addr), x =
 Option.some ad ∧ ((0 : Int) ≤ i ∧ i < (↑x_1 : Int)) ∧ ∃ (x : Option Go.Addr), Go.World.cell? w (Go.Addr.add ad (Int.toNat i * (1 : Nat))) = Option.some (Go.Value.pointer x) ∧ ∃ (I : Option Go.Addr →
 Go.World → Prop), ∃ (μ : Option Go.Addr → Go.World → Nat), I x w ∧ ∀ (x : Option Go.Addr) (w : Go.World), I x w → ∃ (a_3 : Go.Addr), x = Option.some a_3 ∧ ∃ (x_3 : Option Go.Addr), ∃ (x_4 : Nat), ∃
 (x_5 : Nat), Go.World.cell? w (Go.Addr.add a_3 (2 : Nat)) = Option.some (Go.Value.slice x_3 x_4 x_5) ∧ bif !Option.isNone x_3 then ∃ (a_4 : Go.Addr), a = Option.some a_4 ∧ ∃ (S : Go.World → Prop), S
 (Go.World.drew w) ∧ ∃ (x_6 : Option Go.Addr), ∃ (x_7 : Nat), ∃ (x_8 : Nat), (∀ (u : Go.World), S u → Go.World.cell? u (Go.Addr.add a_4 (2 : Nat)) = Option.some (Go.Value.slice x_6 x_7 x_8)) ∧ ∃ (a :
 Go.Addr), x = Option.some a ∧ ∃ (x_9 : Option Go.Addr), ∃ (x_10 : Nat), ∃ (x_11 : Nat), (∀ (u : Go.World), S u → Go.World.cell? u (Go.Addr.add a (2 : Nat)) = Option.some (Go.Value.slice x_9 x_10 x_11))
 ∧ ∃ (a : Go.Addr), x = Option.some a ∧ ∃ (x_12 : Option Go.Addr), ∃ (x_13 : Nat), ∃ (x_14 : Nat), (∀ (u : Go.World), S u → Go.World.cell? u (Go.Addr.add a (2 : Nat)) = Option.some (Go.Value.slice x_12
 x_13 x_14)) ∧ ∃ (ad : Go.Addr), x_9 = Option.some ad ∧ ((0 : Int) ≤ Go.IntKind.wrap Go.IntKind.i64 ((↑x_13 : Int) - (1 : Int)) ∧ Go.IntKind.wrap Go.IntKind.i64 ((↑x_13 : Int) - (1 : Int)) < (↑x_10 :
 Int)) ∧ ∃ (x_15 : Int), (∀ (u : Go.World), S u → Go.World.cell? u (Go.Addr.add ad (Int.toNat (Go.IntKind.wrap Go.IntKind.i64 ((↑x_13 : Int) - (1 : Int))) * (1 : Nat))) = Option.some (Go.Value.int
 Go.IntKind.i64 x_15)) ∧ ∃ (ad : Go.Addr), x_6 = Option.some ad ∧ ((0 : Int) ≤ x_15 ∧ x_15 < (↑x_7 : Int)) ∧ ∃ (x_16 : Option Go.Addr), (∀ (u : Go.World), S u → Go.World.cell? u (Go.Addr.add ad
 (Int.toNat x_15 * (1 : Nat))) = Option.some (Go.Value.pointer x_16)) ∧ I x_16 (Go.World.drew w) ∧ μ x_16 (Go.World.drew w) < μ x w else K (Go.Value.pointer x) w
theorem tree_Arena_end.eq (a : Option Addr) (i : Int) (w : World) (K : Value → World → Prop) : tree_Arena_end.W a i w K = fnW Try.prog Try.f58 (.named (.seq .auto (.seq .auto (.seq (.block (.loop [(5, .one .ptr)] .auto)) .auto)))) [.pointer a, .int .i64 i] w K := by kernel_rfl
theorem tree_Arena_end.calls (ok : Okay Try.prog) {a : Option Addr} {i : Int} {w : World} {K : Value → World → Prop} (h : tree_Arena_end.W a i w K) : CallsV Try.prog 58 #[.pointer a, .int .i64 i] w K :=
  fnW_calls ok Try.func58 (an := (.named (.seq .auto (.seq .auto (.seq (.block (.loop [(5, .one .ptr)] .auto)) .auto))))) (args := [.pointer a, .int .i64 i]) (by rw [← tree_Arena_end.eq]; exact h)
noncomputable def tree_Arena_cut.W : Option Addr → Int → Option Addr → Nat → Nat → World → (Value → World → Prop) → Prop := fun (a : Option Go.Addr) (i : Int) (key_A : Option Go.Addr) (key_n key_c :
 Nat) (w : Go.World) (K : Go.Value → Go.World → Prop) => ∃ (a_1 : Go.Addr), a = Option.some a_1 ∧ ∃ (x : Option Go.Addr), ∃ (x_1 : Nat), ∃ (x_2 : Nat), Go.World.cell? w (Go.Addr.add a_1 (2 : Nat)) =
 Option.some (Go.Value.slice x x_1 x_2) ∧ ∃ (ad : Go.Addr), x = Option.some ad ∧ ((0 : Int) ≤ i ∧ i < (↑x_1 : Int)) ∧ ∃ (x : Option Go.Addr), Go.World.cell? w (Go.Addr.add ad (Int.toNat i * (1 : Nat)))
 = Option.some (Go.Value.pointer x) ∧ ∃ (a_2 : Go.Addr), x = Option.some a_2 ∧ ∃ (x_3 : Option Go.Addr), ∃ (x_4 : Nat), ∃ (x_5 : Nat), Go.World.cell? w (Go.Addr.add a_2 (2 : Nat)) = Option.some
 (Go.Value.slice x_3 x_4 x_5) ∧ bif Option.isNone x_3 then ∃ (a_3 : Go.Addr), x = Option.some a_3 ∧ ∃ (x_6 : Option Go.Addr), ∃ (x_7 : Nat), ∃ (x_8 : Nat), Go.World.cell? w (Go.Addr.add a_3 (0 : Nat)) =
 Option.some (Go.Value.slice x_6 x_7 x_8) ∧ Go.Sx.CallsV Go.Proofs.Try.prog (47 : Nat) #[Go.Value.slice x_6 x_7 x_8, Go.Value.slice key_A key_n key_c, Go.Value.func (Go.Fn.func (48 : Nat)) #[] #[]] w
 fun (v : Go.Value) (w' : Go.World) => ∃ (x_9 : Int), ∃ (x_10 : Bool), v = Go.Value.tuple #[Go.Value.int Go.IntKind.i64 x_9, Go.Value.bool x_10] ∧ ∃ (a_4 : Go.Addr), a = Option.some a_4 ∧ ∃ (S :
 Go.World → Prop), S (Go.World.drew w') ∧ ∃ (x_11 : Option Go.Addr), ∃ (x_12 : Nat), ∃ (x_13 : Nat), (∀ (u : Go.World), S u → Go.World.cell? u (Go.Addr.add a_4 (2 : Nat)) = Option.some (Go.Value.slice
 x_11 x_12 x_13)) ∧ ∃ (a : Go.Addr), x = Option.some a ∧ ∃ (x_14 : Option Go.Addr), ∃ (x_15 : Nat), ∃ (x_16 : Nat), (∀ (u : Go.World), S u → Go.World.cell? u (Go.Addr.add a (0 : Nat)) = Option.some
 (Go.Value.slice x_14 x_15 x_16)) ∧ ∃ (a : Go.Addr), x = Option.some a ∧ ∃ (x : Option Go.Addr), ∃ (x_17 : Nat), ∃ (x_18 : Nat), (∀ (u : Go.World), S u → Go.World.cell? u (Go.Addr.add a (1 : Nat)) =
 Option.some (Go.Value.slice x x_17 x_18)) ∧ Go.Sx.CallsV Go.Proofs.Try.prog (73 : Nat) #[Go.Value.slice x_14 x_15 x_16] (Go.World.drew w') fun (v : Go.Value) (w' : Go.World) => ∃ (x_19 : Option
 Go.Addr), ∃ (x_20 : Nat), ∃ (x_21 : Nat), v = Go.Value.slice x_19 x_20 x_21 ∧ S w' ∧ Go.Sx.CallsV Go.Proofs.Try.prog (78 : Nat) #[Go.Value.slice x_19 x_20 x_21, Go.Value.int Go.IntKind.i64 x_9,
 Go.Value.int Go.IntKind.i64 (Go.IntKind.wrap Go.IntKind.i64 (x_9 + (1 : Int)))] w' fun (v : Go.Value) (w' : Go.World) => ∃ (x_22 : Option Go.Addr), ∃ (x_23 : Nat), ∃ (x_24 : Nat), v = Go.Value.slice
 x_22 x_23 x_24 ∧ S w' ∧ Go.Sx.CallsV Go.Proofs.Try.prog (73 : Nat) #[Go.Value.slice x x_17 x_18] w' fun (v : Go.Value) (w' : Go.World) => ∃ (x : Option Go.Addr), ∃ (x_25 : Nat), ∃ (x_26 : Nat), v =
 Go.Value.slice x x_25 x_26 ∧ S w' ∧ Go.Sx.CallsV Go.Proofs.Try.prog (78 : Nat) #[Go.Value.slice x x_25 x_26, Go.Value.int Go.IntKind.i64 x_9, Go.Value.int Go.IntKind.i64 (Go.IntKind.wrap Go.IntKind.i64
 (x_9 + (1 : Int)))] w' fun (v : Go.Value) (w' : Go.World) => ∃ (x : Option Go.Addr), ∃ (x_27 : Nat), ∃ (x_28 : Nat), v = Go.Value.slice x x_27 x_28 ∧ S w' ∧ ∀ (g : Nat) (w'_1 : Go.World), Go.Sx.Fresh
 w' g w'_1 [Go.Value.slice x_22 x_23 x_24, Go.Value.slice x x_27 x_28, Go.Value.slice Option.none (0 : Nat) (0 : Nat)] (92 : Nat) → S w'_1 ∧ ∃ (ad : Go.Addr), x_11 = Option.some ad ∧ ((0 : Int) ≤ i ∧ i
 < (↑x_12 : Int)) ∧ Go.Sx.stOK (Go.Addr.add ad (Int.toNat i * (1 : Nat))) (0 : Nat) [Go.Value.pointer (Option.some (Go.Addr.mk g (0 : Nat) Option.none))] w'_1 ∧ ∀ (w' : Go.World), w' = Go.Sx.setAll
 (Go.Addr.add ad (Int.toNat i * (1 : Nat))) (0 : Nat) [Go.Value.pointer (Option.some (Go.Addr.mk g (0 : Nat) Option.none))] w'_1 → K (Go.Value.tuple #[]) w' else Go.Sx.CallsV Go.Proofs.Try.prog (56 :
 Nat) #[Go.Value.pointer x, Go.Value.slice key_A key_n key_c] w fun (v : Go.Value) (w' : Go.World) => ∃ (x_6 : Int), v = Go.Value.int Go.IntKind.i64 x_6 ∧ ∃ (a_3 : Go.Addr), x = Option.some a_3 ∧ ∃ (x_7
 : Option Go.Addr), ∃ (x_8 : Nat), ∃ (x_9 : Nat), Go.World.cell? w' (Go.Addr.add a_3 (2 : Nat)) = Option.some (Go.Value.slice x_7 x_8 x_9) ∧ ∃ (ad : Go.Addr), x_7 = Option.some ad ∧ ((0 : Int) ≤ x_6 ∧
 x_6 < (↑x_8 : Int)) ∧ ∃ (x_10 : Int), Go.World.cell? w' (Go.Addr.add ad (Int.toNat x_6 * (1 : Nat))) = Option.some (Go.Value.int Go.IntKind.i64 x_10) ∧ Go.Sx.CallsV Go.Proofs.Try.prog (59 : Nat)
 #[Go.Value.pointer a, Go.Value.int Go.IntKind.i64 x_10, Go.Value.slice key_A key_n key_c] w' fun (v : Go.Value) (w' : Go.World) => v = Go.Value.tuple #[] ∧ ∃ (a_4 : Go.Addr), a = Option.some a_4 ∧ ∃ (S
 : Go.World → Prop), S (Go.World.drew w') ∧ ∃ (x_11 : Option Go.Addr), ∃ (x_12 : Nat), ∃ (x_13 : Nat), (∀ (u : Go.World), S u → Go.World.cell? u (Go.Addr.add a_4 (2 : Nat)) = Option.some (Go.Value.slice
 x_11 x_12 x_13)) ∧ ∃ (a_5 : Go.Addr), x = Option.some a_5 ∧ ∃ (x : Option Go.Addr), ∃ (x_14 : Nat), ∃ (x_15 : Nat), (∀ (u : Go.World), S u → Go.World.cell? u (Go.Addr.add a_5 (2 : Nat)) = Option.some
 (Go.Value.slice x x_14 x_15)) ∧ ∃ (ad : Go.Addr), x = Option.some ad ∧ ((0 : Int) ≤ x_6 ∧ x_6 < (↑x_14 : Int)) ∧ ∃ (x : Int), (∀ (u : Go.World), S u → Go.World.cell? u (Go.Addr.add ad (Int.toNat x_6 *
 (1 : Nat))) = Option.some (Go.Value.int Go.IntKind.i64 x)) ∧ ∃ (ad : Go.Addr), x_11 = Option.some ad ∧ ((0 : Int) ≤ x ∧ x < (↑x_12 : Int)) ∧ ∃ (x_16 : Option Go.Addr), (∀ (u : Go.World), S u →
 Go.World.cell? u (Go.Addr.add ad (Int.toNat x * (1 : Nat))) = Option.some (Go.Value.pointer x_16)) ∧ ∃ (a_6 : Go.Addr), a = Option.some a_6 ∧ ∃ (x : Int), (∀ (u : Go.World), S u → Go.World.cell? u
 (Go.Addr.add a_6 (0 : Nat)) = Option.some (Go.Value.int Go.IntKind.i64 x)) ∧ (2 : Int) ≠ (0 : Int) ∧ Go.Sx.CallsV Go.Proofs.Try.prog (72 : Nat) #[Go.Value.pointer x_16] (Go.World.drew w') fun (v :
 Go.Value) (w' : Go.World) => ∃ (x_17 : Int), v = Go.Value.int Go.IntKind.i64 x_17 ∧ S w' ∧ bif Decidable.decide (x_17 < Go.IntKind.wrap Go.IntKind.i64 (Int.tdiv x (2 : Int))) then Go.Sx.CallsV
 Go.Proofs.Try.prog (79 : Nat) #[Go.Value.pointer a, Go.Value.int Go.IntKind.i64 i, Go.Value.int Go.IntKind.i64 (Go.IntKind.wrap Go.IntKind.i64 ((if (1 : Int) > x_6 then (1 : Int) else x_6) - (1 :
 Int)))] w' fun (v : Go.Value) (w' : Go.World) => v = Go.Value.tuple #[] ∧ K (Go.Value.tuple #[]) w' else K (Go.Value.tuple #[]) w'
theorem tree_Arena_cut.eq (a : Option Addr) (i : Int) (key_A : Option Addr) (key_n : Nat) (key_c : Nat) (w : World) (K : Value → World → Prop) : tree_Arena_cut.W a i key_A key_n key_c w K = fnW Try.prog Try.f59 (.named .auto) [.pointer a, .int .i64 i, .slice key_A key_n key_c] w K := by kernel_rfl
theorem tree_Arena_cut.calls (ok : Okay Try.prog) {a : Option Addr} {i : Int} {key_A : Option Addr} {key_n : Nat} {key_c : Nat} {w : World} {K : Value → World → Prop} (h : tree_Arena_cut.W a i key_A key_n key_c w K) : CallsV Try.prog 59 #[.pointer a, .int .i64 i, .slice key_A key_n key_c] w K :=
  fnW_calls ok Try.func59 (an := (.named .auto)) (args := [.pointer a, .int .i64 i, .slice key_A key_n key_c]) (by rw [← tree_Arena_cut.eq]; exact h)
noncomputable def tree_Arena_drop.W : Option Addr → Int → World → (Value → World → Prop) → Prop := fun (a : Option Go.Addr) (i : Int) (w : Go.World) (K : Go.Value → Go.World → Prop) => ∃ (a_1 :
 Go.Addr), a = Option.some a_1 ∧ ∃ (x : Option Go.Addr), ∃ (x_1 : Nat), ∃ (x_2 : Nat), Go.World.cell? w (Go.Addr.add a_1 (2 : Nat)) = Option.some (Go.Value.slice x x_1 x_2) ∧ ∃ (ad : Go.Addr), x =
 Option.some ad ∧ ((0 : Int) ≤ i ∧ i < (↑x_1 : Int)) ∧ Go.Sx.stOK (Go.Addr.add ad (Int.toNat i * (1 : Nat))) (0 : Nat) [Go.Value.pointer Option.none] w ∧ ∀ (w' : Go.World), w' = Go.Sx.setAll
 (Go.Addr.add ad (Int.toNat i * (1 : Nat))) (0 : Nat) [Go.Value.pointer Option.none] w → ∃ (a_3 : Go.Addr), a = Option.some a_3 ∧ ∃ (x : Option Go.Addr), ∃ (x_3 : Nat), ∃ (x_4 : Nat), Go.World.cell? w'
 (Go.Addr.add a_3 (3 : Nat)) = Option.some (Go.Value.slice x x_3 x_4) ∧ ∀ (g : Nat) (w'_1 : Go.World), Go.Sx.Fresh w' g w'_1 [Go.Value.int Go.IntKind.i64 i] (3 : Nat) → ∃ (x_5 : Option Go.Addr), ∃ (x_6
 : Nat), ∃ (x_7 : Nat), ∃ (w' : Go.World), Go.Sx.RunsTo Go.Proofs.Try.prog (Go.Builtin.append_ (Array.mk [(22 : Nat), (22 : Nat)]) (22 : Nat) #[Go.Value.slice x x_3 x_4, Go.Value.slice (Option.some
 (Go.Addr.mk g (0 : Nat) Option.none)) (1 : Nat) (1 : Nat)]) w'_1 (Go.Value.slice x_5 x_6 x_7) w' ∧ ∃ (a_5 : Go.Addr), a = Option.some a_5 ∧ Go.Sx.stOK (Go.Addr.add a_5 (3 : Nat)) (0 : Nat)
 [Go.Value.slice x_5 x_6 x_7] w' ∧ ∀ (w'_2 : Go.World), w'_2 = Go.Sx.setAll (Go.Addr.add a_5 (3 : Nat)) (0 : Nat) [Go.Value.slice x_5 x_6 x_7] w' → K (Go.Value.tuple #[]) w'_2
theorem tree_Arena_drop.eq (a : Option Addr) (i : Int) (w : World) (K : Value → World → Prop) : tree_Arena_drop.W a i w K = fnW Try.prog Try.f60 (.named .auto) [.pointer a, .int .i64 i] w K := by kernel_rfl
theorem tree_Arena_drop.calls (ok : Okay Try.prog) {a : Option Addr} {i : Int} {w : World} {K : Value → World → Prop} (h : tree_Arena_drop.W a i w K) : CallsV Try.prog 60 #[.pointer a, .int .i64 i] w K :=
  fnW_calls ok Try.func60 (an := (.named .auto)) (args := [.pointer a, .int .i64 i]) (by rw [← tree_Arena_drop.eq]; exact h)
noncomputable def tree_node_size.W : Option Addr → World → (Value → World → Prop) → Prop := fun (n : Option Go.Addr) (w : Go.World) (K : Go.Value → Go.World → Prop) => ∃ (a : Go.Addr), n = Option.some
 a ∧ ∃ (x : Option Go.Addr), ∃ (x_1 : Nat), ∃ (x_2 : Nat), Go.World.cell? w (Go.Addr.add a (2 : Nat)) = Option.some (Go.Value.slice x x_1 x_2) ∧ bif !Option.isNone x then ∃ (a : Go.Addr), n =
 Option.some a ∧ ∃ (x : Option Go.Addr), ∃ (x_3 : Nat), ∃ (x_4 : Nat), Go.World.cell? w (Go.Addr.add a (2 : Nat)) = Option.some (Go.Value.slice x x_3 x_4) ∧ K (Go.Value.int Go.IntKind.i64 (↑x_3 : Int))
 w else ∃ (a : Go.Addr), n = Option.some a ∧ ∃ (x : Option Go.Addr), ∃ (x_3 : Nat), ∃ (x_4 : Nat), Go.World.cell? w (Go.Addr.add a (0 : Nat)) = Option.some (Go.Value.slice x x_3 x_4) ∧ K (Go.Value.int
 Go.IntKind.i64 (↑x_3 : Int)) w
theorem tree_node_size.eq (n : Option Addr) (w : World) (K : Value → World → Prop) : tree_node_size.W n w K = fnW Try.prog Try.f72 (.named .auto) [.pointer n] w K := by kernel_rfl
theorem tree_node_size.calls (ok : Okay Try.prog) {n : Option Addr} {w : World} {K : Value → World → Prop} (h : tree_node_size.W n w K) : CallsV Try.prog 72 #[.pointer n] w K :=
  fnW_calls ok Try.func72 (an := (.named .auto)) (args := [.pointer n]) (by rw [← tree_node_size.eq]; exact h)
noncomputable def tree_Arena_split.W : Option Addr → Int → Option Addr → World → (Value → World → Prop) → Prop := fun (a : Option Go.Addr) (i : Int) (n : Option Go.Addr) (w : Go.World) (K : Go.Value →
 Go.World → Prop) => ∃ (a_1 : Go.Addr), a = Option.some a_1 ∧ ∃ (x : Option Go.Addr), ∃ (x_1 : Nat), ∃ (x_2 : Nat), Go.World.cell? w (Go.Addr.add a_1 (2 : Nat)) = Option.some (Go.Value.slice x x_1 x_2)
 ∧ ∃ (ad : Go.Addr), x = Option.some ad ∧ ((0 : Int) ≤ i ∧ i < (↑x_1 : Int)) ∧ Go.Sx.stOK (Go.Addr.add ad (Int.toNat i * (1 : Nat))) (0 : Nat) [Go.Value.pointer n] w ∧ ∀ (w' : Go.World), w' =
 Go.Sx.setAll (Go.Addr.add ad (Int.toNat i * (1 : Nat))) (0 : Nat) [Go.Value.pointer n] w → Go.Sx.CallsV Go.Proofs.Try.prog (72 : Nat) #[Go.Value.pointer n] w' fun (v : Go.Value) (w' : Go.World) => ∃ (x
 : Int), v = Go.Value.int Go.IntKind.i64 x ∧ ∃ (a_3 : Go.Addr), a = Option.some a_3 ∧ ∃ (x_3 : Int), Go.World.cell? w' (Go.Addr.add a_3 (0 : Nat)) = Option.some (Go.Value.int Go.IntKind.i64 x_3) ∧ bif
 Decidable.decide (x ≤ x_3) then K (Go.Value.tuple #[Go.Value.slice Option.none (0 : Nat) (0 : Nat), Go.Value.int Go.IntKind.i64 (0 : Int), Go.Value.bool Bool.false]) w' else (2 : Int) ≠ (0 : Int) ∧ ∃
 (a_4 : Go.Addr), n = Option.some a_4 ∧ ∃ (x_4 : Option Go.Addr), ∃ (x_5 : Nat), ∃ (x_6 : Nat), Go.World.cell? w' (Go.Addr.add a_4 (2 : Nat)) = Option.some (Go.Value.slice x_4 x_5 x_6) ∧ bif
 Option.isNone x_4 then ∃ (J : Go.World → Prop), (∀ (w : Go.World), J w → ∃ (a_6 : Go.Addr), n = Option.some a_6 ∧ ∃ (S : Go.World → Prop), S (Go.World.drew w) ∧ ∃ (x_7 : Option Go.Addr), ∃ (x_8 : Nat),
 ∃ (x_9 : Nat), (∀ (u : Go.World), S u → Go.World.cell? u (Go.Addr.add a_6 (0 : Nat)) = Option.some (Go.Value.slice x_7 x_8 x_9)) ∧ ∃ (ad : Go.Addr), x_7 = Option.some ad ∧ ((0 : Int) ≤ Go.IntKind.wrap
 Go.IntKind.i64 (Int.tdiv (Go.IntKind.wrap Go.IntKind.i64 (x + (1 : Int))) (2 : Int)) ∧ Go.IntKind.wrap Go.IntKind.i64 (Int.tdiv (Go.IntKind.wrap Go.IntKind.i64 (x + (1 : Int))) (2 : Int)) < (↑x_8 :
 Int)) ∧ ∃ (x_10 : Option Go.Addr), ∃ (x_11 : Nat), ∃ (x_12 : Nat), (∀ (u : Go.World), S u → Go.World.cell? u (Go.Addr.add ad (Int.toNat (Go.IntKind.wrap Go.IntKind.i64 (Int.tdiv (Go.IntKind.wrap
 Go.IntKind.i64 (x + (1 : Int))) (2 : Int))) * (1 : Nat))) = Option.some (Go.Value.slice x_10 x_11 x_12)) ∧ ∃ (a_7 : Go.Addr), n = Option.some a_7 ∧ ∃ (x_13 : Option Go.Addr), ∃ (x_14 : Nat), ∃ (x_15 :
 Nat), (∀ (u : Go.World), S u → Go.World.cell? u (Go.Addr.add a_7 (0 : Nat)) = Option.some (Go.Value.slice x_13 x_14 x_15)) ∧ ((0 : Int) ≤ Go.IntKind.wrap Go.IntKind.i64 (Int.tdiv (Go.IntKind.wrap
 Go.IntKind.i64 (x + (1 : Int))) (2 : Int)) ∧ Go.IntKind.wrap Go.IntKind.i64 (Int.tdiv (Go.IntKind.wrap Go.IntKind.i64 (x + (1 : Int))) (2 : Int)) ≤ (↑x_14 : Int)) ∧ ∃ (a_8 : Go.Addr), n = Option.some
 a_8 ∧ ∃ (x_16 : Option Go.Addr), ∃ (x_17 : Nat), ∃ (x_18 : Nat), (∀ (u : Go.World), S u → Go.World.cell? u (Go.Addr.add a_8 (1 : Nat)) = Option.some (Go.Value.slice x_16 x_17 x_18)) ∧ ((0 : Int) ≤
 Go.IntKind.wrap Go.IntKind.i64 (Int.tdiv (Go.IntKind.wrap Go.IntKind.i64 (x + (1 : Int))) (2 : Int)) ∧ Go.IntKind.wrap Go.IntKind.i64 (Int.tdiv (Go.IntKind.wrap Go.IntKind.i64 (x + (1 : Int))) (2 :
 Int)) ≤ (↑x_17 : Int)) ∧ Go.Sx.CallsV Go.Proofs.Try.prog (73 : Nat) #[Go.Value.slice (Go.Sx.cutAt x_13 x_15 (Int.toNat (Go.IntKind.wrap Go.IntKind.i64 (Int.tdiv (Go.IntKind.wrap Go.IntKind.i64 (x + (1
 : Int))) (2 : Int)))) (1 : Nat)) (x_14 - Int.toNat (Go.IntKind.wrap Go.IntKind.i64 (Int.tdiv (Go.IntKind.wrap Go.IntKind.i64 (x + (1 : Int))) (2 : Int)))) (x_15 - Int.toNat (Go.IntKind.wrap
 Go.IntKind.i64 (Int.tdiv (Go.IntKind.wrap Go.IntKind.i64 (x + (1 : Int))) (2 : Int))))] (Go.World.drew w) fun (v : Go.Value) (w' : Go.World) => ∃ (x_19 : Option Go.Addr), ∃ (x_20 : Nat), ∃ (x_21 :
 Nat), v = Go.Value.slice x_19 x_20 x_21 ∧ S w' ∧ Go.Sx.CallsV Go.Proofs.Try.prog (73 : Nat) #[Go.Value.slice (Go.Sx.cutAt x_16 x_18 (Int.toNat (Go.IntKind.wrap Go.IntKind.i64 (Int.tdiv (Go.IntKind.wrap
 Go.IntKind.i64 (x + (1 : Int))) (2 : Int)))) (1 : Nat)) (x_17 - Int.toNat (Go.IntKind.wrap Go.IntKind.i64 (Int.tdiv (Go.IntKind.wrap Go.IntKind.i64 (x + (1 : Int))) (2 : Int)))) (x_18 - Int.toNat
 (Go.IntKind.wrap Go.IntKind.i64 (Int.tdiv (Go.IntKind.wrap Go.IntKind.i64 (x + (1 : Int))) (2 : Int))))] w' fun (v : Go.Value) (w' : Go.World) => ∃ (x : Option Go.Addr), ∃ (x_22 : Nat), ∃ (x_23 : Nat),
 v = Go.Value.slice x x_22 x_23 ∧ S w' ∧ ∀ (g : Nat) (w'_1 : Go.World), Go.Sx.Fresh w' g w'_1 [Go.Value.slice x_19 x_20 x_21, Go.Value.slice x x_22 x_23, Go.Value.slice Option.none (0 : Nat) (0 : Nat)]
 (92 : Nat) → S w'_1 ∧ Go.Sx.CallsV Go.Proofs.Try.prog (44 : Nat) #[Go.Value.pointer a, Go.Value.pointer (Option.some (Go.Addr.mk g (0 : Nat) Option.none))] w'_1 fun (v : Go.Value) (w' : Go.World) => ∃
 (x : Int), v = Go.Value.int Go.IntKind.i64 x ∧ S w' ∧ K (Go.Value.tuple #[Go.Value.slice x_10 x_11 x_12, Go.Value.int Go.IntKind.i64 x, Go.Value.bool Bool.true]) w') ∧ ∃ (a_5 : Go.Addr), a =
 Option.some a_5 ∧ ∃ (S : Go.World → Prop), S (Go.World.drew w') ∧ ∃ (x_7 : Option Go.Addr), ∃ (x_8 : Nat), ∃ (x_9 : Nat), (∀ (u : Go.World), S u → Go.World.cell? u (Go.Addr.add a_5 (2 : Nat)) =
 Option.some (Go.Value.slice x_7 x_8 x_9)) ∧ ∃ (a : Go.Addr), n = Option.some a ∧ ∃ (x_10 : Option Go.Addr), ∃ (x_11 : Nat), ∃ (x_12 : Nat), (∀ (u : Go.World), S u → Go.World.cell? u (Go.Addr.add a (0 :
 Nat)) = Option.some (Go.Value.slice x_10 x_11 x_12)) ∧ ((0 : Int) ≤ Go.IntKind.wrap Go.IntKind.i64 (Int.tdiv (Go.IntKind.wrap Go.IntKind.i64 (x + (1 : Int))) (2 : Int)) ∧ Go.IntKind.wrap Go.IntKind.i64
 (Int.tdiv (Go.IntKind.wrap Go.IntKind.i64 (x + (1 : Int))) (2 : Int)) ≤ (↑x_12 : Int)) ∧ ((0 : Int) ≤ Go.IntKind.wrap Go.IntKind.i64 (Int.tdiv (Go.IntKind.wrap Go.IntKind.i64 (x + (1 : Int))) (2 :
 Int)) ∧ Go.IntKind.wrap Go.IntKind.i64 (Int.tdiv (Go.IntKind.wrap Go.IntKind.i64 (x + (1 : Int))) (2 : Int)) ≤ (↑(Int.toNat (Go.IntKind.wrap Go.IntKind.i64 (Int.tdiv (Go.IntKind.wrap Go.IntKind.i64 (x
 + (1 : Int))) (2 : Int)))) : Int)) ∧ ∃ (a : Go.Addr), n = Option.some a ∧ ∃ (x_13 : Option Go.Addr), ∃ (x_14 : Nat), ∃ (x_15 : Nat), (∀ (u : Go.World), S u → Go.World.cell? u (Go.Addr.add a (1 : Nat))
 = Option.some (Go.Value.slice x_13 x_14 x_15)) ∧ ((0 : Int) ≤ Go.IntKind.wrap Go.IntKind.i64 (Int.tdiv (Go.IntKind.wrap Go.IntKind.i64 (x + (1 : Int))) (2 : Int)) ∧ Go.IntKind.wrap Go.IntKind.i64
 (Int.tdiv (Go.IntKind.wrap Go.IntKind.i64 (x + (1 : Int))) (2 : Int)) ≤ (↑x_15 : Int)) ∧ ((0 : Int) ≤ Go.IntKind.wrap Go.IntKind.i64 (Int.tdiv (Go.IntKind.wrap Go.IntKind.i64 (x + (1 : Int))) (2 :
 Int)) ∧ Go.IntKind.wrap Go.IntKind.i64 (Int.tdiv (Go.IntKind.wrap Go.IntKind.i64 (x + (1 : Int))) (2 : Int)) ≤ (↑(Int.toNat (Go.IntKind.wrap Go.IntKind.i64 (Int.tdiv (Go.IntKind.wrap Go.IntKind.i64 (x
 + (1 : Int))) (2 : Int)))) : Int)) ∧ ∀ (g : Nat) (w'_1 : Go.World), Go.Sx.Fresh (Go.World.drew w') g w'_1 [Go.Value.slice (Go.Sx.cutAt x_10 (Int.toNat (Go.IntKind.wrap Go.IntKind.i64 (Int.tdiv
 (Go.IntKind.wrap Go.IntKind.i64 (x + (1 : Int))) (2 : Int)))) (0 : Nat) (1 : Nat)) (Int.toNat (Go.IntKind.wrap Go.IntKind.i64 (Int.tdiv (Go.IntKind.wrap Go.IntKind.i64 (x + (1 : Int))) (2 : Int))) - (0
 : Nat)) (Int.toNat (Go.IntKind.wrap Go.IntKind.i64 (Int.tdiv (Go.IntKind.wrap Go.IntKind.i64 (x + (1 : Int))) (2 : Int))) - (0 : Nat)), Go.Value.slice (Go.Sx.cutAt x_13 (Int.toNat (Go.IntKind.wrap
 Go.IntKind.i64 (Int.tdiv (Go.IntKind.wrap Go.IntKind.i64 (x + (1 : Int))) (2 : Int)))) (0 : Nat) (1 : Nat)) (Int.toNat (Go.IntKind.wrap Go.IntKind.i64 (Int.tdiv (Go.IntKind.wrap Go.IntKind.i64 (x + (1
 : Int))) (2 : Int))) - (0 : Nat)) (Int.toNat (Go.IntKind.wrap Go.IntKind.i64 (Int.tdiv (Go.IntKind.wrap Go.IntKind.i64 (x + (1 : Int))) (2 : Int))) - (0 : Nat)), Go.Value.slice Option.none (0 : Nat) (0
 : Nat)] (92 : Nat) → S w'_1 ∧ ∃ (ad : Go.Addr), x_7 = Option.some ad ∧ ((0 : Int) ≤ i ∧ i < (↑x_8 : Int)) ∧ Go.Sx.stOK (Go.Addr.add ad (Int.toNat i * (1 : Nat))) (0 : Nat) [Go.Value.pointer
 (Option.some (Go.Addr.mk g (0 : Nat) Option.none))] w'_1 ∧ ∀ (w' : Go.World), w' = Go.Sx.setAll (Go.Addr.add ad (Int.toNat i * (1 : Nat))) (0 : Nat) [Go.Value.pointer (Option.some (Go.Addr.mk g (0 :
 Nat) Option.none))] w'_1 → J w' else ∃ (J : Go.World → Prop), (∀ (w : Go.World), J w → ∃ (a_6 : Go.Addr), n = Option.some a_6 ∧ ∃ (S : Go.World → Prop), S (Go.World.drew w) ∧ ∃ (x_7 : Option Go.Addr),
 ∃ (x_8 : Nat), ∃ (x_9 : Nat), (∀ (u : Go.World), S u → Go.World.cell? u (Go.Addr.add a_6 (0 : Nat)) = Option.some (Go.Value.slice x_7 x_8 x_9)) ∧ ∃ (ad : Go.Addr), x_7 = Option.some ad ∧ ((0 : Int) ≤
 Go.IntKind.wrap Go.IntKind.i64 (Go.IntKind.wrap Go.IntKind.i64 (Int.tdiv (Go.IntKind.wrap Go.IntKind.i64 (x + (1 : Int))) (2 : Int)) - (1 : Int)) ∧ Go.IntKind.wrap Go.IntKind.i64 (Go.IntKind.wrap
 Go.IntKind.i64 (Int.tdiv (Go.IntKind.wrap Go.IntKind.i64 (x + (1 : Int))) (2 : Int)) - (1 : Int)) < (↑x_8 : Int)) ∧ ∃ (x_10 : Option Go.Addr), ∃ (x_11 : Nat), ∃ (x_12 : Nat), (∀ (u : Go.World), S u →
 Go.World.cell? u (Go.Addr.add ad (Int.toNat (Go.IntKind.wrap Go.IntKind.i64 (Go.IntKind.wrap Go.IntKind.i64 (Int.tdiv (Go.IntKind.wrap Go.IntKind.i64 (x + (1 : Int))) (2 : Int)) - (1 : Int))) * (1 :
 Nat))) = Option.some (Go.Value.slice x_10 x_11 x_12)) ∧ ∃ (a_7 : Go.Addr), n = Option.some a_7 ∧ ∃ (x_13 : Option Go.Addr), ∃ (x_14 : Nat), ∃ (x_15 : Nat), (∀ (u : Go.World), S u → Go.World.cell? u
 (Go.Addr.add a_7 (0 : Nat)) = Option.some (Go.Value.slice x_13 x_14 x_15)) ∧ ((0 : Int) ≤ Go.IntKind.wrap Go.IntKind.i64 (Int.tdiv (Go.IntKind.wrap Go.IntKind.i64 (x + (1 : Int))) (2 : Int)) ∧
 Go.IntKind.wrap Go.IntKind.i64 (Int.tdiv (Go.IntKind.wrap Go.IntKind.i64 (x + (1 : Int))) (2 : Int)) ≤ (↑x_14 : Int)) ∧ ∃ (a_8 : Go.Addr), n = Option.some a_8 ∧ ∃ (x_16 : Option Go.Addr), ∃ (x_17 :
 Nat), ∃ (x_18 : Nat), (∀ (u : Go.World), S u → Go.World.cell? u (Go.Addr.add a_8 (2 : Nat)) = Option.some (Go.Value.slice x_16 x_17 x_18)) ∧ ((0 : Int) ≤ Go.IntKind.wrap Go.IntKind.i64 (Int.tdiv
 (Go.IntKind.wrap Go.IntKind.i64 (x + (1 : Int))) (2 : Int)) ∧ Go.IntKind.wrap Go.IntKind.i64 (Int.tdiv (Go.IntKind.wrap Go.IntKind.i64 (x + (1 : Int))) (2 : Int)) ≤ (↑x_17 : Int)) ∧ Go.Sx.CallsV
 Go.Proofs.Try.prog (73 : Nat) #[Go.Value.slice (Go.Sx.cutAt x_13 x_15 (Int.toNat (Go.IntKind.wrap Go.IntKind.i64 (Int.tdiv (Go.IntKind.wrap Go.IntKind.i64 (x + (1 : Int))) (2 : Int)))) (1 : Nat)) (x_14
 - Int.toNat (Go.IntKind.wrap Go.IntKind.i64 (Int.tdiv (Go.IntKind.wrap Go.IntKind.i64 (x + (1 : Int))) (2 : Int)))) (x_15 - Int.toNat (Go.IntKind.wrap Go.IntKind.i64 (Int.tdiv (Go.IntKind.wrap
 Go.IntKind.i64 (x + (1 : Int))) (2 : Int))))] (Go.World.drew w) fun (v : Go.Value) (w' : Go.World) => ∃ (x_19 : Option Go.Addr), ∃ (x_20 : Nat), ∃ (x_21 : Nat), v = Go.Value.slice x_19 x_20 x_21 ∧ S w'
 ∧ Go.Sx.CallsV Go.Proofs.Try.prog (63 : Nat) #[Go.Value.slice (Go.Sx.cutAt x_16 x_18 (Int.toNat (Go.IntKind.wrap Go.IntKind.i64 (Int.tdiv (Go.IntKind.wrap Go.IntKind.i64 (x + (1 : Int))) (2 : Int))))
 (1 : Nat)) (x_17 - Int.toNat (Go.IntKind.wrap Go.IntKind.i64 (Int.tdiv (Go.IntKind.wrap Go.IntKind.i64 (x + (1 : Int))) (2 : Int)))) (x_18 - Int.toNat (Go.IntKind.wrap Go.IntKind.i64 (Int.tdiv
 (Go.IntKind.wrap Go.IntKind.i64 (x + (1 : Int))) (2 : Int))))] w' fun (v : Go.Value) (w' : Go.World) => ∃ (x : Option Go.Addr), ∃ (x_22 : Nat), ∃ (x_23 : Nat), v = Go.Value.slice x x_22 x_23 ∧ S w' ∧ ∀
 (g : Nat) (w'_1 : Go.World), Go.Sx.Fresh w' g w'_1 [Go.Value.slice x_19 x_20 x_21, Go.Value.slice Option.none (0 : Nat) (0 : Nat), Go.Value.slice x x_22 x_23] (92 : Nat) → S w'_1 ∧ Go.Sx.CallsV
 Go.Proofs.Try.prog (44 : Nat) #[Go.Value.pointer a, Go.Value.pointer (Option.some (Go.Addr.mk g (0 : Nat) Option.none))] w'_1 fun (v : Go.Value) (w' : Go.World) => ∃ (x : Int), v = Go.Value.int
 Go.IntKind.i64 x ∧ S w' ∧ K (Go.Value.tuple #[Go.Value.slice x_10 x_11 x_12, Go.Value.int Go.IntKind.i64 x, Go.Value.bool Bool.true]) w') ∧ ∃ (a_5 : Go.Addr), a = Option.some a_5 ∧ ∃ (S : Go.World →
 Prop), S (Go.World.drew w') ∧ ∃ (x_7 : Option Go.Addr), ∃ (x_8 : Nat), ∃ (x_9 : Nat), (∀ (u : Go.World), S u → Go.World.cell? u (Go.Addr.add a_5 (2 : Nat)) = Option.some (Go.Value.slice x_7 x_8 x_9)) ∧
 ∃ (a : Go.Addr), n = Option.some a ∧ ∃ (x_10 : Option Go.Addr), ∃ (x_11 : Nat), ∃ (x_12 : Nat), (∀ (u : Go.World), S u → Go.World.cell? u (Go.Addr.add a (0 : Nat)) = Option.some (Go.Value.slice x_10
 x_11 x_12)) ∧ ((0 : Int) ≤ Go.IntKind.wrap Go.IntKind.i64 (Go.IntKind.wrap Go.IntKind.i64 (Int.tdiv (Go.IntKind.wrap Go.IntKind.i64 (x + (1 : Int))) (2 : Int)) - (1 : Int)) ∧ Go.IntKind.wrap
 Go.IntKind.i64 (Go.IntKind.wrap Go.IntKind.i64 (Int.tdiv (Go.IntKind.wrap Go.IntKind.i64 (x + (1 : Int))) (2 : Int)) - (1 : Int)) ≤ (↑x_12 : Int)) ∧ ((0 : Int) ≤ Go.IntKind.wrap Go.IntKind.i64
 (Go.IntKind.wrap Go.IntKind.i64 (Int.tdiv (Go.IntKind.wrap Go.IntKind.i64 (x + (1 : Int))) (2 : Int)) - (1 : Int)) ∧ Go.IntKind.wrap Go.IntKind.i64 (Go.IntKind.wrap Go.IntKind.i64 (Int.tdiv
 (Go.IntKind.wrap Go.IntKind.i64 (x + (1 : Int))) (2 : Int)) - (1 : Int)) ≤ (↑(Int.toNat (Go.IntKind.wrap Go.IntKind.i64 (Go.IntKind.wrap Go.IntKind.i64 (Int.tdiv (Go.IntKind.wrap Go.IntKind.i64 (x + (1
 : Int))) (2 : Int)) - (1 : Int)))) : Int)) ∧ ∃ (a : Go.Addr), n = Option.some a ∧ ∃ (x_13 : Option Go.Addr), ∃ (x_14 : Nat), ∃ (x_15 : Nat), (∀ (u : Go.World), S u → Go.World.cell? u (Go.Addr.add a (2
 : Nat)) = Option.some (Go.Value.slice x_13 x_14 x_15)) ∧ ((0 : Int) ≤ Go.IntKind.wrap Go.IntKind.i64 (Int.tdiv (Go.IntKind.wrap Go.IntKind.i64 (x + (1 : Int))) (2 : Int)) ∧ Go.IntKind.wrap
 Go.IntKind.i64 (Int.tdiv (Go.IntKind.wrap Go.IntKind.i64 (x + (1 : Int))) (2 : Int)) ≤ (↑x_15 : Int)) ∧ ((0 : Int) ≤ Go.IntKind.wrap Go.IntKind.i64 (Int.tdiv (Go.IntKind.wrap Go.IntKind.i64 (x + (1 :
 Int))) (2 : Int)) ∧ Go.IntKind.wrap Go.IntKind.i64 (Int.tdiv (Go.IntKind.wrap Go.IntKind.i64 (x + (1 : Int))) (2 : Int)) ≤ (↑(Int.toNat (Go.IntKind.wrap Go.IntKind.i64 (Int.tdiv (Go.IntKind.wrap
 Go.IntKind.i64 (x + (1 : Int))) (2 : Int)))) : Int)) ∧ ∀ (g : Nat) (w'_1 : Go.World), Go.Sx.Fresh (Go.World.drew w') g w'_1 [Go.Value.slice (Go.Sx.cutAt x_10 (Int.toNat (Go.IntKind.wrap Go.IntKind.i64
 (Go.IntKind.wrap Go.IntKind.i64 (Int.tdiv (Go.IntKind.wrap Go.IntKind.i64 (x + (1 : Int))) (2 : Int)) - (1 : Int)))) (0 : Nat) (1 : Nat)) (Int.toNat (Go.IntKind.wrap Go.IntKind.i64 (Go.IntKind.wrap
 Go.IntKind.i64 (Int.tdiv (Go.IntKind.wrap Go.IntKind.i64 (x + (1 : Int))) (2 : Int)) - (1 : Int))) - (0 : Nat)) (Int.toNat (Go.IntKind.wrap Go.IntKind.i64 (Go.IntKind.wrap Go.IntKind.i64 (Int.tdiv
 (Go.IntKind.wrap Go.IntKind.i64 (x + (1 : Int))) (2 : Int)) - (1 : Int))) - (0 : Nat)), Go.Value.slice Option.none (0 : Nat) (0 : Nat), Go.Value.slice (Go.Sx.cutAt x_13 (Int.toNat (Go.IntKind.wrap
 Go.IntKind.i64 (Int.tdiv (Go.IntKind.wrap Go.IntKind.i64 (x + (1 : Int))) (2 : Int)))) (0 : Nat) (1 : Nat)) (Int.toNat (Go.IntKind.wrap Go.IntKind.i64 (Int.tdiv (Go.IntKind.wrap Go.IntKind.i64 (x + (1
 : Int))) (2 : Int))) - (0 : Nat)) (Int.toNat (Go.IntKind.wrap Go.IntKind.i64 (Int.tdiv (Go.IntKind.wrap Go.IntKind.i64 (x + (1 : Int))) (2 : Int))) - (0 : Nat))] (92 : Nat) → S w'_1 ∧ ∃ (ad : Go.Addr),
 x_7 = Option.some ad ∧ ((0 : Int) ≤ i ∧ i < (↑x_8 : Int)) ∧ Go.Sx.stOK (Go.Addr.add ad (Int.toNat i * (1 : Nat))) (0 : Nat) [Go.Value.pointer (Option.some (Go.Addr.mk g (0 : Nat) Option.none))] w'_1 ∧
 ∀ (w' : Go.World), w' = Go.Sx.setAll (Go.Addr.add ad (Int.toNat i * (1 : Nat))) (0 : Nat) [Go.Value.pointer (Option.some (Go.Addr.mk g (0 : Nat) Option.none))] w'_1 → J w'
theorem tree_Arena_split.eq (a : Option Addr) (i : Int) (n : Option Addr) (w : World) (K : Value → World → Prop) : tree_Arena_split.W a i n w K = fnW Try.prog Try.f75 (.named (.seq .auto (.seq .auto (.seq .auto (.seq .auto (.seq .auto (.seq (.seq .auto (.cond (.join [] .auto .auto) .auto)) (.join [] .auto .auto)))))))) [.pointer a, .int .i64 i, .pointer n] w K := by kernel_rfl
theorem tree_Arena_split.calls (ok : Okay Try.prog) {a : Option Addr} {i : Int} {n : Option Addr} {w : World} {K : Value → World → Prop} (h : tree_Arena_split.W a i n w K) : CallsV Try.prog 75 #[.pointer a, .int .i64 i, .pointer n] w K :=
  fnW_calls ok Try.func75 (an := (.named (.seq .auto (.seq .auto (.seq .auto (.seq .auto (.seq .auto (.seq (.seq .auto (.cond (.join [] .auto .auto) .auto)) (.join [] .auto .auto))))))))) (args := [.pointer a, .int .i64 i, .pointer n]) (by rw [← tree_Arena_split.eq]; exact h)
noncomputable def tree_Arena_even.W : Option Addr → Int → Int → World → (Value → World → Prop) → Prop := fun (a : Option Go.Addr) (i k : Int) (w : Go.World) (K : Go.Value → Go.World → Prop) => ∃ (a_1 :
 Go.Addr), a = Option.some a_1 ∧ ∃ (x : Option Go.Addr), ∃ (x_1 : Nat), ∃ (x_2 : Nat), Go.World.cell? w (Go.Addr.add a_1 (2 : Nat)) = Option.some (Go.Value.slice x x_1 x_2) ∧ ∃ (ad : Go.Addr), x =
 Option.some ad ∧ ((0 : Int) ≤ i ∧ i < (↑x_1 : Int)) ∧ ∃ (x : Option Go.Addr), Go.World.cell? w (Go.Addr.add ad (Int.toNat i * (1 : Nat))) = Option.some (Go.Value.pointer x) ∧ ∃ (a_2 : Go.Addr), a =
 Option.some a_2 ∧ ∃ (S : Go.World → Prop), S (Go.World.drew w) ∧ ∃ (x_3 : Option Go.Addr), ∃ (x_4 : Nat), ∃ (x_5 : Nat), (∀ (u : Go.World), S u → Go.World.cell? u (Go.Addr.add a_2 (2 : Nat)) =
 Option.some (Go.Value.slice x_3 x_4 x_5)) ∧ ∃ (a_3 : Go.Addr), x = Option.some a_3 ∧ ∃ (x_6 : Option Go.Addr), ∃ (x_7 : Nat), ∃ (x_8 : Nat), (∀ (u : Go.World), S u → Go.World.cell? u (Go.Addr.add a_3
 (2 : Nat)) = Option.some (Go.Value.slice x_6 x_7 x_8)) ∧ ∃ (ad : Go.Addr), x_6 = Option.some ad ∧ ((0 : Int) ≤ k ∧ k < (↑x_7 : Int)) ∧ ∃ (x_9 : Int), (∀ (u : Go.World), S u → Go.World.cell? u
 (Go.Addr.add ad (Int.toNat k * (1 : Nat))) = Option.some (Go.Value.int Go.IntKind.i64 x_9)) ∧ ∃ (ad : Go.Addr), x_3 = Option.some ad ∧ ((0 : Int) ≤ x_9 ∧ x_9 < (↑x_4 : Int)) ∧ ∃ (x_10 : Option
 Go.Addr), (∀ (u : Go.World), S u → Go.World.cell? u (Go.Addr.add ad (Int.toNat x_9 * (1 : Nat))) = Option.some (Go.Value.pointer x_10)) ∧ ∃ (a_4 : Go.Addr), a = Option.some a_4 ∧ ∃ (x_11 : Option
 Go.Addr), ∃ (x_12 : Nat), ∃ (x_13 : Nat), (∀ (u : Go.World), S u → Go.World.cell? u (Go.Addr.add a_4 (2 : Nat)) = Option.some (Go.Value.slice x_11 x_12 x_13)) ∧ ∃ (a_5 : Go.Addr), x = Option.some a_5 ∧
 ∃ (x_14 : Option Go.Addr), ∃ (x_15 : Nat), ∃ (x_16 : Nat), (∀ (u : Go.World), S u → Go.World.cell? u (Go.Addr.add a_5 (2 : Nat)) = Option.some (Go.Value.slice x_14 x_15 x_16)) ∧ ∃ (ad : Go.Addr), x_14
 = Option.some ad ∧ ((0 : Int) ≤ Go.IntKind.wrap Go.IntKind.i64 (k + (1 : Int)) ∧ Go.IntKind.wrap Go.IntKind.i64 (k + (1 : Int)) < (↑x_15 : Int)) ∧ ∃ (x_17 : Int), (∀ (u : Go.World), S u →
 Go.World.cell? u (Go.Addr.add ad (Int.toNat (Go.IntKind.wrap Go.IntKind.i64 (k + (1 : Int))) * (1 : Nat))) = Option.some (Go.Value.int Go.IntKind.i64 x_17)) ∧ ∃ (ad : Go.Addr), x_11 = Option.some ad ∧
 ((0 : Int) ≤ x_17 ∧ x_17 < (↑x_12 : Int)) ∧ ∃ (x_18 : Option Go.Addr), (∀ (u : Go.World), S u → Go.World.cell? u (Go.Addr.add ad (Int.toNat x_17 * (1 : Nat))) = Option.some (Go.Value.pointer x_18)) ∧ ∃
 (J : Option Go.Addr → Go.World → Prop), (∀ (x_19 : Option Go.Addr) (w : Go.World), J x_19 w → ∃ (J : Option Go.Addr → Go.World → Prop), (∀ (x_20 : Option Go.Addr) (w : Go.World), J x_20 w →
 Go.Sx.CallsV Go.Proofs.Try.prog (72 : Nat) #[Go.Value.pointer x_20] w fun (v : Go.Value) (w' : Go.World) => ∃ (x_21 : Int), v = Go.Value.int Go.IntKind.i64 x_21 ∧ ∃ (a_8 : Go.Addr), a = Option.some a_8
 ∧ ∃ (x_22 : Int), Go.World.cell? w' (Go.Addr.add a_8 (0 : Nat)) = Option.some (Go.Value.int Go.IntKind.i64 x_22) ∧ bif Decidable.decide (x_21 ≤ x_22) then ∃ (a_9 : Go.Addr), a = Option.some a_9 ∧ ∃ (S
 : Go.World → Prop), S (Go.World.drew w') ∧ ∃ (x_23 : Option Go.Addr), ∃ (x_24 : Nat), ∃ (x_25 : Nat), (∀ (u : Go.World), S u → Go.World.cell? u (Go.Addr.add a_9 (2 : Nat)) = Option.some (Go.Value.slice
 x_23 x_24 x_25)) ∧ ∃ (a_10 : Go.Addr), x = Option.some a_10 ∧ ∃ (x_26 : Option Go.Addr), ∃ (x_27 : Nat), ∃ (x_28 : Nat), (∀ (u : Go.World), S u → Go.World.cell? u (Go.Addr.add a_10 (2 : Nat)) =
 Option.some (Go.Value.slice x_26 x_27 x_28)) ∧ ∃ (ad : Go.Addr), x_26 = Option.some ad ∧ ((0 : Int) ≤ k ∧ k < (↑x_27 : Int)) ∧ ∃ (x_29 : Int), (∀ (u : Go.World), S u → Go.World.cell? u (Go.Addr.add ad
 (Int.toNat k * (1 : Nat))) = Option.some (Go.Value.int Go.IntKind.i64 x_29)) ∧ ∃ (ad : Go.Addr), x_23 = Option.some ad ∧ ((0 : Int) ≤ x_29 ∧ x_29 < (↑x_24 : Int)) ∧ Go.Sx.stOK (Go.Addr.add ad
 (Int.toNat x_29 * (1 : Nat))) (0 : Nat) [Go.Value.pointer x_20] (Go.World.drew w') ∧ ∀ (w'_1 : Go.World), w'_1 = Go.Sx.setAll (Go.Addr.add ad (Int.toNat x_29 * (1 : Nat))) (0 : Nat) [Go.Value.pointer
 x_20] (Go.World.drew w') → ∃ (a_12 : Go.Addr), x = Option.some a_12 ∧ ∃ (x_30 : Option Go.Addr), ∃ (x_31 : Nat), ∃ (x_32 : Nat), Go.World.cell? w'_1 (Go.Addr.add a_12 (2 : Nat)) = Option.some
 (Go.Value.slice x_30 x_31 x_32) ∧ ∃ (ad : Go.Addr), x_30 = Option.some ad ∧ ((0 : Int) ≤ Go.IntKind.wrap Go.IntKind.i64 (k + (1 : Int)) ∧ Go.IntKind.wrap Go.IntKind.i64 (k + (1 : Int)) < (↑x_31 : Int))
 ∧ ∃ (x_33 : Int), Go.World.cell? w'_1 (Go.Addr.add ad (Int.toNat (Go.IntKind.wrap Go.IntKind.i64 (k + (1 : Int))) * (1 : Nat))) = Option.some (Go.Value.int Go.IntKind.i64 x_33) ∧ Go.Sx.CallsV
 Go.Proofs.Try.prog (60 : Nat) #[Go.Value.pointer a, Go.Value.int Go.IntKind.i64 x_33] w'_1 fun (v : Go.Value) (w' : Go.World) => v = Go.Value.tuple #[] ∧ ∃ (a_13 : Go.Addr), a = Option.some a_13 ∧ ∃ (S
 : Go.World → Prop), S (Go.World.drew w') ∧ ∃ (x_34 : Option Go.Addr), ∃ (x_35 : Nat), ∃ (x_36 : Nat), (∀ (u : Go.World), S u → Go.World.cell? u (Go.Addr.add a_13 (2 : Nat)) = Option.some
 (Go.Value.slice x_34 x_35 x_36)) ∧ ∃ (a : Go.Addr), x = Option.some a ∧ ∃ (x_37 : Option Go.Addr), ∃ (x_38 : Nat), ∃ (x_39 : Nat), (∀ (u : Go.World), S u → Go.World.cell? u (Go.Addr.add a (0 : Nat)) =
 Option.some (Go.Value.slice x_37 x_38 x_39)) ∧ ∃ (a : Go.Addr), x = Option.some a ∧ ∃ (x : Option Go.Addr), ∃ (x_40 : Nat), ∃ (x_41 : Nat), (∀ (u : Go.World), S u → Go.World.cell? u (Go.Addr.add a (2 :
 Nat)) = Option.some (Go.Value.slice x x_40 x_41)) ∧ Go.Sx.CallsV Go.Proofs.Try.prog (73 : Nat) #[Go.Value.slice x_37 x_38 x_39] (Go.World.drew w') fun (v : Go.Value) (w' : Go.World) => ∃ (x_42 : Option
 Go.Addr), ∃ (x_43 : Nat), ∃ (x_44 : Nat), v = Go.Value.slice x_42 x_43 x_44 ∧ S w' ∧ Go.Sx.CallsV Go.Proofs.Try.prog (78 : Nat) #[Go.Value.slice x_42 x_43 x_44, Go.Value.int Go.IntKind.i64 k,
 Go.Value.int Go.IntKind.i64 (Go.IntKind.wrap Go.IntKind.i64 (k + (1 : Int)))] w' fun (v : Go.Value) (w' : Go.World) => ∃ (x_45 : Option Go.Addr), ∃ (x_46 : Nat), ∃ (x_47 : Nat), v = Go.Value.slice x_45
 x_46 x_47 ∧ S w' ∧ Go.Sx.CallsV Go.Proofs.Try.prog (63 : Nat) #[Go.Value.slice x x_40 x_41] w' fun (v : Go.Value) (w' : Go.World) => ∃ (x : Option Go.Addr), ∃ (x_48 : Nat), ∃ (x_49 : Nat), v =
 Go.Value.slice x x_48 x_49 ∧ S w' ∧ Go.Sx.CallsV Go.Proofs.Try.prog (88 : Nat) #[Go.Value.slice x x_48 x_49, Go.Value.int Go.IntKind.i64 (Go.IntKind.wrap Go.IntKind.i64 (k + (1 : Int))), Go.Value.int
 Go.IntKind.i64 (Go.IntKind.wrap Go.IntKind.i64 (k + (2 : Int)))] w' fun (v : Go.Value) (w' : Go.World) => ∃ (x : Option Go.Addr), ∃ (x_50 : Nat), ∃ (x_51 : Nat), v = Go.Value.slice x x_50 x_51 ∧ S w' ∧
 ∀ (g : Nat) (w'_2 : Go.World), Go.Sx.Fresh w' g w'_2 [Go.Value.slice x_45 x_46 x_47, Go.Value.slice Option.none (0 : Nat) (0 : Nat), Go.Value.slice x x_50 x_51] (92 : Nat) → S w'_2 ∧ ∃ (ad : Go.Addr),
 x_34 = Option.some ad ∧ ((0 : Int) ≤ i ∧ i < (↑x_35 : Int)) ∧ Go.Sx.stOK (Go.Addr.add ad (Int.toNat i * (1 : Nat))) (0 : Nat) [Go.Value.pointer (Option.some (Go.Addr.mk g (0 : Nat) Option.none))] w'_2
 ∧ ∀ (w' : Go.World), w' = Go.Sx.setAll (Go.Addr.add ad (Int.toNat i * (1 : Nat))) (0 : Nat) [Go.Value.pointer (Option.some (Go.Addr.mk g (0 : Nat) Option.none))] w'_2 → K (Go.Value.tuple #[]) w' else ∃
 (a_9 : Go.Addr), x = Option.some a_9 ∧ ∃ (x_23 : Option Go.Addr), ∃ (x_24 : Nat), ∃ (x_25 : Nat), Go.World.cell? w' (Go.Addr.add a_9 (0 : Nat)) = Option.some (Go.Value.slice x_23 x_24 x_25) ∧
 Go.Sx.CallsV Go.Proofs.Try.prog (73 : Nat) #[Go.Value.slice x_23 x_24 x_25] w' fun (v : Go.Value) (w' : Go.World) => ∃ (x_26 : Option Go.Addr), ∃ (x_27 : Nat), ∃ (x_28 : Nat), v = Go.Value.slice x_26
 x_27 x_28 ∧ Go.Sx.CallsV Go.Proofs.Try.prog (72 : Nat) #[Go.Value.pointer x_20] w' fun (v : Go.Value) (w' : Go.World) => ∃ (x_29 : Int), v = Go.Value.int Go.IntKind.i64 x_29 ∧ (2 : Int) ≠ (0 : Int) ∧ ∃
 (a_10 : Go.Addr), x_20 = Option.some a_10 ∧ ∃ (x_30 : Option Go.Addr), ∃ (x_31 : Nat), ∃ (x_32 : Nat), Go.World.cell? w' (Go.Addr.add a_10 (2 : Nat)) = Option.some (Go.Value.slice x_30 x_31 x_32) ∧ bif
 Option.isNone x_30 then ∃ (J : Go.World → Prop), (∀ (w : Go.World), J w → ∃ (J : Go.World → Prop), (∀ (w : Go.World), J w → ∃ (a_13 : Go.Addr), x_20 = Option.some a_13 ∧ ∃ (x_33 : Option Go.Addr), ∃
 (x_34 : Nat), ∃ (x_35 : Nat), Go.World.cell? w (Go.Addr.add a_13 (0 : Nat)) = Option.some (Go.Value.slice x_33 x_34 x_35) ∧ ∃ (ad : Go.Addr), x_33 = Option.some ad ∧ ((0 : Int) ≤ Go.IntKind.wrap
 Go.IntKind.i64 (Int.tdiv x_29 (2 : Int)) ∧ Go.IntKind.wrap Go.IntKind.i64 (Int.tdiv x_29 (2 : Int)) < (↑x_34 : Int)) ∧ ∃ (x_36 : Option Go.Addr), ∃ (x_37 : Nat), ∃ (x_38 : Nat), Go.World.cell? w
 (Go.Addr.add ad (Int.toNat (Go.IntKind.wrap Go.IntKind.i64 (Int.tdiv x_29 (2 : Int))) * (1 : Nat))) = Option.some (Go.Value.slice x_36 x_37 x_38) ∧ ∃ (ad : Go.Addr), x_26 = Option.some ad ∧ ((0 : Int)
 ≤ k ∧ k < (↑x_27 : Int)) ∧ Go.Sx.stOK (Go.Addr.add ad (Int.toNat k * (1 : Nat))) (0 : Nat) [Go.Value.slice x_36 x_37 x_38] w ∧ ∀ (w' : Go.World), w' = Go.Sx.setAll (Go.Addr.add ad (Int.toNat k * (1 :
 Nat))) (0 : Nat) [Go.Value.slice x_36 x_37 x_38] w → ∃ (a_15 : Go.Addr), a = Option.some a_15 ∧ ∃ (S : Go.World → Prop), S (Go.World.drew w') ∧ ∃ (x_39 : Option Go.Addr), ∃ (x_40 : Nat), ∃ (x_41 :
 Nat), (∀ (u : Go.World), S u → Go.World.cell? u (Go.Addr.add a_15 (2 : Nat)) = Option.some (Go.Value.slice x_39 x_40 x_41)) ∧ ∃ (a : Go.Addr), x = Option.some a ∧ ∃ (x : Option Go.Addr), ∃ (x_42 :
 Nat), ∃ (x_43 : Nat), (∀ (u : Go.World), S u → Go.World.cell? u (Go.Addr.add a (2 : Nat)) = Option.some (Go.Value.slice x x_42 x_43)) ∧ ∀ (g : Nat) (w'_1 : Go.World), Go.Sx.Fresh (Go.World.drew w') g
 w'_1 [Go.Value.slice x_26 x_27 x_28, Go.Value.slice Option.none (0 : Nat) (0 : Nat), Go.Value.slice x x_42 x_43] (92 : Nat) → S w'_1 ∧ ∃ (ad : Go.Addr), x_39 = Option.some ad ∧ ((0 : Int) ≤ i ∧ i <
 (↑x_40 : Int)) ∧ Go.Sx.stOK (Go.Addr.add ad (Int.toNat i * (1 : Nat))) (0 : Nat) [Go.Value.pointer (Option.some (Go.Addr.mk g (0 : Nat) Option.none))] w'_1 ∧ ∀ (w' : Go.World), w' = Go.Sx.setAll
 (Go.Addr.add ad (Int.toNat i * (1 : Nat))) (0 : Nat) [Go.Value.pointer (Option.some (Go.Addr.mk g (0 : Nat) Option.none))] w'_1 → K (Go.Value.tuple #[]) w') ∧ ∃ (a_12 : Go.Addr), a = Option.some a_12 ∧
 ∃ (S : Go.World → Prop), S (Go.World.drew w) ∧ ∃ (x_33 : Option Go.Addr), ∃ (x_34 : Nat), ∃ (x_35 : Nat), (∀ (u : Go.World), S u → Go.World.cell? u (Go.Addr.add a_12 (2 : Nat)) = Option.some
 (Go.Value.slice x_33 x_34 x_35)) ∧ ∃ (a : Go.Addr), x = Option.some a ∧ ∃ (x : Option Go.Addr), ∃ (x_36 : Nat), ∃ (x_37 : Nat), (∀ (u : Go.World), S u → Go.World.cell? u (Go.Addr.add a (2 : Nat)) =
 Option.some (Go.Value.slice x x_36 x_37)) ∧ ∃ (ad : Go.Addr), x = Option.some ad ∧ ((0 : Int) ≤ Go.IntKind.wrap Go.IntKind.i64 (k + (1 : Int)) ∧ Go.IntKind.wrap Go.IntKind.i64 (k + (1 : Int)) < (↑x_36
 : Int)) ∧ ∃ (x : Int), (∀ (u : Go.World), S u → Go.World.cell? u (Go.Addr.add ad (Int.toNat (Go.IntKind.wrap Go.IntKind.i64 (k + (1 : Int))) * (1 : Nat))) = Option.some (Go.Value.int Go.IntKind.i64 x))
 ∧ ∃ (a : Go.Addr), x_20 = Option.some a ∧ ∃ (x_38 : Option Go.Addr), ∃ (x_39 : Nat), ∃ (x_40 : Nat), (∀ (u : Go.World), S u → Go.World.cell? u (Go.Addr.add a (0 : Nat)) = Option.some (Go.Value.slice
 x_38 x_39 x_40)) ∧ ((0 : Int) ≤ Go.IntKind.wrap Go.IntKind.i64 (Int.tdiv x_29 (2 : Int)) ∧ Go.IntKind.wrap Go.IntKind.i64 (Int.tdiv x_29 (2 : Int)) ≤ (↑x_39 : Int)) ∧ ∃ (a : Go.Addr), x_20 =
 Option.some a ∧ ∃ (x_41 : Option Go.Addr), ∃ (x_42 : Nat), ∃ (x_43 : Nat), (∀ (u : Go.World), S u → Go.World.cell? u (Go.Addr.add a (1 : Nat)) = Option.some (Go.Value.slice x_41 x_42 x_43)) ∧ ((0 :
 Int) ≤ Go.IntKind.wrap Go.IntKind.i64 (Int.tdiv x_29 (2 : Int)) ∧ Go.IntKind.wrap Go.IntKind.i64 (Int.tdiv x_29 (2 : Int)) ≤ (↑x_42 : Int)) ∧ Go.Sx.CallsV Go.Proofs.Try.prog (73 : Nat) #[Go.Value.slice
 (Go.Sx.cutAt x_38 x_40 (Int.toNat (Go.IntKind.wrap Go.IntKind.i64 (Int.tdiv x_29 (2 : Int)))) (1 : Nat)) (x_39 - Int.toNat (Go.IntKind.wrap Go.IntKind.i64 (Int.tdiv x_29 (2 : Int)))) (x_40 - Int.toNat
 (Go.IntKind.wrap Go.IntKind.i64 (Int.tdiv x_29 (2 : Int))))] (Go.World.drew w) fun (v : Go.Value) (w' : Go.World) => ∃ (x_44 : Option Go.Addr), ∃ (x_45 : Nat), ∃ (x_46 : Nat), v = Go.Value.slice x_44
 x_45 x_46 ∧ S w' ∧ Go.Sx.CallsV Go.Proofs.Try.prog (73 : Nat) #[Go.Value.slice (Go.Sx.cutAt x_41 x_43 (Int.toNat (Go.IntKind.wrap Go.IntKind.i64 (Int.tdiv x_29 (2 : Int)))) (1 : Nat)) (x_42 - Int.toNat
 (Go.IntKind.wrap Go.IntKind.i64 (Int.tdiv x_29 (2 : Int)))) (x_43 - Int.toNat (Go.IntKind.wrap Go.IntKind.i64 (Int.tdiv x_29 (2 : Int))))] w' fun (v : Go.Value) (w' : Go.World) => ∃ (x_47 : Option
 Go.Addr), ∃ (x_48 : Nat), ∃ (x_49 : Nat), v = Go.Value.slice x_47 x_48 x_49 ∧ S w' ∧ ∀ (g : Nat) (w'_1 : Go.World), Go.Sx.Fresh w' g w'_1 [Go.Value.slice x_44 x_45 x_46, Go.Value.slice x_47 x_48 x_49,
 Go.Value.slice Option.none (0 : Nat) (0 : Nat)] (92 : Nat) → S w'_1 ∧ ∃ (ad : Go.Addr), x_33 = Option.some ad ∧ ((0 : Int) ≤ x ∧ x < (↑x_34 : Int)) ∧ Go.Sx.stOK (Go.Addr.add ad (Int.toNat x * (1 :
 Nat))) (0 : Nat) [Go.Value.pointer (Option.some (Go.Addr.mk g (0 : Nat) Option.none))] w'_1 ∧ ∀ (w' : Go.World), w' = Go.Sx.setAll (Go.Addr.add ad (Int.toNat x * (1 : Nat))) (0 : Nat) [Go.Value.pointer
 (Option.some (Go.Addr.mk g (0 : Nat) Option.none))] w'_1 → J w') ∧ ∃ (a_11 : Go.Addr), a = Option.some a_11 ∧ ∃ (S : Go.World → Prop), S (Go.World.drew w') ∧ ∃ (x_33 : Option Go.Addr), ∃ (x_34 : Nat),
 ∃ (x_35 : Nat), (∀ (u : Go.World), S u → Go.World.cell? u (Go.Addr.add a_11 (2 : Nat)) = Option.some (Go.Value.slice x_33 x_34 x_35)) ∧ ∃ (a : Go.Addr), x = Option.some a ∧ ∃ (x : Option Go.Addr), ∃
 (x_36 : Nat), ∃ (x_37 : Nat), (∀ (u : Go.World), S u → Go.World.cell? u (Go.Addr.add a (2 : Nat)) = Option.some (Go.Value.slice x x_36 x_37)) ∧ ∃ (ad : Go.Addr), x = Option.some ad ∧ ((0 : Int) ≤ k ∧ k
 < (↑x_36 : Int)) ∧ ∃ (x : Int), (∀ (u : Go.World), S u → Go.World.cell? u (Go.Addr.add ad (Int.toNat k * (1 : Nat))) = Option.some (Go.Value.int Go.IntKind.i64 x)) ∧ ∃ (a : Go.Addr), x_20 = Option.some
 a ∧ ∃ (x_38 : Option Go.Addr), ∃ (x_39 : Nat), ∃ (x_40 : Nat), (∀ (u : Go.World), S u → Go.World.cell? u (Go.Addr.add a (0 : Nat)) = Option.some (Go.Value.slice x_38 x_39 x_40)) ∧ ((0 : Int) ≤
 Go.IntKind.wrap Go.IntKind.i64 (Int.tdiv x_29 (2 : Int)) ∧ Go.IntKind.wrap Go.IntKind.i64 (Int.tdiv x_29 (2 : Int)) ≤ (↑x_40 : Int)) ∧ ∃ (a : Go.Addr), x_20 = Option.some a ∧ ∃ (x_41 : Option Go.Addr),
 ∃ (x_42 : Nat), ∃ (x_43 : Nat), (∀ (u : Go.World), S u → Go.World.cell? u (Go.Addr.add a (1 : Nat)) = Option.some (Go.Value.slice x_41 x_42 x_43)) ∧ ((0 : Int) ≤ Go.IntKind.wrap Go.IntKind.i64
 (Int.tdiv x_29 (2 : Int)) ∧ Go.IntKind.wrap Go.IntKind.i64 (Int.tdiv x_29 (2 : Int)) ≤ (↑x_43 : Int)) ∧ Go.Sx.CallsV Go.Proofs.Try.prog (73 : Nat) #[Go.Value.slice (Go.Sx.cutAt x_38 x_40 (0 : Nat) (1 :
 Nat)) (Int.toNat (Go.IntKind.wrap Go.IntKind.i64 (Int.tdiv x_29 (2 : Int))) - (0 : Nat)) (x_40 - (0 : Nat))] (Go.World.drew w') fun (v : Go.Value) (w' : Go.World) => ∃ (x_44 : Option Go.Addr), ∃ (x_45
 : Nat), ∃ (x_46 : Nat), v = Go.Value.slice x_44 x_45 x_46 ∧ S w' ∧ Go.Sx.CallsV Go.Proofs.Try.prog (73 : Nat) #[Go.Value.slice (Go.Sx.cutAt x_41 x_43 (0 : Nat) (1 : Nat)) (Int.toNat (Go.IntKind.wrap
 Go.IntKind.i64 (Int.tdiv x_29 (2 : Int))) - (0 : Nat)) (x_43 - (0 : Nat))] w' fun (v : Go.Value) (w' : Go.World) => ∃ (x_47 : Option Go.Addr), ∃ (x_48 : Nat), ∃ (x_49 : Nat), v = Go.Value.slice x_47
 x_48 x_49 ∧ S w' ∧ ∀ (g : Nat) (w'_1 : Go.World), Go.Sx.Fresh w' g w'_1 [Go.Value.slice x_44 x_45 x_46, Go.Value.slice x_47 x_48 x_49, Go.Value.slice Option.none (0 : Nat) (0 : Nat)] (92 : Nat) → S
 w'_1 ∧ ∃ (ad : Go.Addr), x_33 = Option.some ad ∧ ((0 : Int) ≤ x ∧ x < (↑x_34 : Int)) ∧ Go.Sx.stOK (Go.Addr.add ad (Int.toNat x * (1 : Nat))) (0 : Nat) [Go.Value.pointer (Option.some (Go.Addr.mk g (0 :
 Nat) Option.none))] w'_1 ∧ ∀ (w' : Go.World), w' = Go.Sx.setAll (Go.Addr.add ad (Int.toNat x * (1 : Nat))) (0 : Nat) [Go.Value.pointer (Option.some (Go.Addr.mk g (0 : Nat) Option.none))] w'_1 → J w'
 else ∃ (J : Go.World → Prop), (∀ (w : Go.World), J w → ∃ (J : Go.World → Prop), (∀ (w : Go.World), J w → ∃ (a_13 : Go.Addr), x_20 = Option.some a_13 ∧ ∃ (x_33 : Option Go.Addr), ∃ (x_34 : Nat), ∃ (x_35
 : Nat), Go.World.cell? w (Go.Addr.add a_13 (0 : Nat)) = Option.some (Go.Value.slice x_33 x_34 x_35) ∧ ∃ (ad : Go.Addr), x_33 = Option.some ad ∧ ((0 : Int) ≤ Go.IntKind.wrap Go.IntKind.i64
 (Go.IntKind.wrap Go.IntKind.i64 (Int.tdiv x_29 (2 : Int)) - (1 : Int)) ∧ Go.IntKind.wrap Go.IntKind.i64 (Go.IntKind.wrap Go.IntKind.i64 (Int.tdiv x_29 (2 : Int)) - (1 : Int)) < (↑x_34 : Int)) ∧ ∃ (x_36
 : Option Go.Addr), ∃ (x_37 : Nat), ∃ (x_38 : Nat), Go.World.cell? w (Go.Addr.add ad (Int.toNat (Go.IntKind.wrap Go.IntKind.i64 (Go.IntKind.wrap Go.IntKind.i64 (Int.tdiv x_29 (2 : Int)) - (1 : Int))) *
 (1 : Nat))) = Option.some (Go.Value.slice x_36 x_37 x_38) ∧ ∃ (ad : Go.Addr), x_26 = Option.some ad ∧ ((0 : Int) ≤ k ∧ k < (↑x_27 : Int)) ∧ Go.Sx.stOK (Go.Addr.add ad (Int.toNat k * (1 : Nat))) (0 :
 Nat) [Go.Value.slice x_36 x_37 x_38] w ∧ ∀ (w' : Go.World), w' = Go.Sx.setAll (Go.Addr.add ad (Int.toNat k * (1 : Nat))) (0 : Nat) [Go.Value.slice x_36 x_37 x_38] w → ∃ (a_15 : Go.Addr), a =
 Option.some a_15 ∧ ∃ (S : Go.World → Prop), S (Go.World.drew w') ∧ ∃ (x_39 : Option Go.Addr), ∃ (x_40 : Nat), ∃ (x_41 : Nat), (∀ (u : Go.World), S u → Go.World.cell? u (Go.Addr.add a_15 (2 : Nat)) =
 Option.some (Go.Value.slice x_39 x_40 x_41)) ∧ ∃ (a : Go.Addr), x = Option.some a ∧ ∃ (x : Option Go.Addr), ∃ (x_42 : Nat), ∃ (x_43 : Nat), (∀ (u : Go.World), S u → Go.World.cell? u (Go.Addr.add a (2 :
 Nat)) = Option.some (Go.Value.slice x x_42 x_43)) ∧ ∀ (g : Nat) (w'_1 : Go.World), Go.Sx.Fresh (Go.World.drew w') g w'_1 [Go.Value.slice x_26 x_27 x_28, Go.Value.slice Option.none (0 : Nat) (0 : Nat),
 Go.Value.slice x x_42 x_43] (92 : Nat) → S w'_1 ∧ ∃ (ad : Go.Addr), x_39 = Option.some ad ∧ ((0 : Int) ≤ i ∧ i < (↑x_40 : Int)) ∧ Go.Sx.stOK (Go.Addr.add ad (Int.toNat i * (1 : Nat))) (0 : Nat)
 [Go.Value.pointer (Option.some (Go.Addr.mk g (0 : Nat) Option.none))] w'_1 ∧ ∀ (w' : Go.World), w' = Go.Sx.setAll (Go.Addr.add ad (Int.toNat i * (1 : Nat))) (0 : Nat) [Go.Value.pointer (Option.some
 (Go.Addr.mk g (0 : Nat) Option.none))] w'_1 → K (Go.Value.tuple #[]) w') ∧ ∃ (a_12 : Go.Addr), a = Option.some a_12 ∧ ∃ (S : Go.World → Prop), S (Go.World.drew w) ∧ ∃ (x_33 : Option Go.Addr), ∃ (x_34 :
 Nat), ∃ (x_35 : Nat), (∀ (u : Go.World), S u → Go.World.cell? u (Go.Addr.add a_12 (2 : Nat)) = Option.some (Go.Value.slice x_33 x_34 x_35)) ∧ ∃ (a : Go.Addr), x = Option.some a ∧ ∃ (x : Option
 Go.Addr), ∃ (x_36 : Nat), ∃ (x_37 : Nat), (∀ (u : Go.World), S u → Go.World.cell? u (Go.Addr.add a (2 : Nat)) = Option.some (Go.Value.slice x x_36 x_37)) ∧ ∃ (ad : Go.Addr), x = Option.some ad ∧ ((0 :
 Int) ≤ Go.IntKind.wrap Go.IntKind.i64 (k + (1 : Int)) ∧ Go.IntKind.wrap Go.IntKind.i64 (k + (1 : Int)) < (↑x_36 : Int)) ∧ ∃ (x : Int), (∀ (u : Go.World), S u → Go.World.cell? u (Go.Addr.add ad
 (Int.toNat (Go.IntKind.wrap Go.IntKind.i64 (k + (1 : Int))) * (1 : Nat))) = Option.some (Go.Value.int Go.IntKind.i64 x)) ∧ ∃ (a : Go.Addr), x_20 = Option.some a ∧ ∃ (x_38 : Option Go.Addr), ∃ (x_39 :
 Nat), ∃ (x_40 : Nat), (∀ (u : Go.World), S u → Go.World.cell? u (Go.Addr.add a (0 : Nat)) = Option.some (Go.Value.slice x_38 x_39 x_40)) ∧ ((0 : Int) ≤ Go.IntKind.wrap Go.IntKind.i64 (Int.tdiv x_29 (2
 : Int)) ∧ Go.IntKind.wrap Go.IntKind.i64 (Int.tdiv x_29 (2 : Int)) ≤ (↑x_39 : Int)) ∧ ∃ (a : Go.Addr), x_20 = Option.some a ∧ ∃ (x_41 : Option Go.Addr), ∃ (x_42 : Nat), ∃ (x_43 : Nat), (∀ (u :
 Go.World), S u → Go.World.cell? u (Go.Addr.add a (2 : Nat)) = Option.some (Go.Value.slice x_41 x_42 x_43)) ∧ ((0 : Int) ≤ Go.IntKind.wrap Go.IntKind.i64 (Int.tdiv x_29 (2 : Int)) ∧ Go.IntKind.wrap
 Go.IntKind.i64 (Int.tdiv x_29 (2 : Int)) ≤ (↑x_42 : Int)) ∧ Go.Sx.CallsV Go.Proofs.Try.prog (73 : Nat) #[Go.Value.slice (Go.Sx.cutAt x_38 x_40 (Int.toNat (Go.IntKind.wrap Go.IntKind.i64 (Int.tdiv x_29
 (2 : Int)))) (1 : Nat)) (x_39 - Int.toNat (Go.IntKind.wrap Go.IntKind.i64 (Int.tdiv x_29 (2 : Int)))) (x_40 - Int.toNat (Go.IntKind.wrap Go.IntKind.i64 (Int.tdiv x_29 (2 : Int))))] (Go.World.drew w)
 fun (v : Go.Value) (w' : Go.World) => ∃ (x_44 : Option Go.Addr), ∃ (x_45 : Nat), ∃ (x_46 : Nat), v = Go.Value.slice x_44 x_45 x_46 ∧ S w' ∧ Go.Sx.CallsV Go.Proofs.Try.prog (63 : Nat) #[Go.Value.slice
 (Go.Sx.cutAt x_41 x_43 (Int.toNat (Go.IntKind.wrap Go.IntKind.i64 (Int.tdiv x_29 (2 : Int)))) (1 : Nat)) (x_42 - Int.toNat (Go.IntKind.wrap Go.IntKind.i64 (Int.tdiv x_29 (2 : Int)))) (x_43 - Int.toNat
 (Go.IntKind.wrap Go.IntKind.i64 (Int.tdiv x_29 (2 : Int))))] w' fun (v : Go.Value) (w' : Go.World) => ∃ (x_47 : Option Go.Addr), ∃ (x_48 : Nat), ∃ (x_49 : Nat), v = Go.Value.slice x_47 x_48 x_49 ∧ S w'
 ∧ ∀ (g : Nat) (w'_1 : Go.World), Go.Sx.Fresh w' g w'_1 [Go.Value.slice x_44 x_45 x_46, Go.Value.slice Option.none (0 : Nat) (0 : Nat), Go.Value.slice x_47 x_48 x_49] (92 : Nat) → S w'_1 ∧ ∃ (ad :
 Go.Addr), x_33 = Option.some ad ∧ ((0 : Int) ≤ x ∧ x < (↑x_34 : Int)) ∧ Go.Sx.stOK (Go.Addr.add ad (Int.toNat x * (1 : Nat))) (0 : Nat) [Go.Value.pointer (Option.some (Go.Addr.mk g (0 : Nat)
 Option.none))] w'_1 ∧ ∀ (w' : Go.World), w' = Go.Sx.setAll (Go.Addr.add ad (Int.toNat x * (1 : Nat))) (0 : Nat) [Go.Value.pointer (Option.some (Go.Addr.mk g (0 : Nat) Option.none))] w'_1 → J w') ∧ ∃
 (a_11 : Go.Addr), a = Option.some a_11 ∧ ∃ (S : Go.World → Prop), S (Go.World.drew w') ∧ ∃ (x_33 : Option Go.Addr), ∃ (x_34 : Nat), ∃ (x_35 : Nat), (∀ (u : Go.World), S u → Go.World.cell? u
 (Go.Addr.add a_11 (2 : Nat)) = Option.some (Go.Value.slice x_33 x_34 x_35)) ∧ ∃ (a : Go.Addr), x = Option.some a ∧ ∃ (x : Option Go.Addr), ∃ (x_36 : Nat), ∃ (x_37 : Nat), (∀ (u : Go.World), S u →
 Go.World.cell? u (Go.Addr.add a (2 : Nat)) = Option.some (Go.Value.slice x x_36 x_37)) ∧ ∃ (ad : Go.Addr), x = Option.some ad ∧ ((0 : Int) ≤ k ∧ k < (↑x_36 : Int)) ∧ ∃ (x : Int), (∀ (u : Go.World), S u
 → Go.World.cell? u (Go.Addr.add ad (Int.toNat k * (1 : Nat))) = Option.some (Go.Value.int Go.IntKind.i64 x)) ∧ ∃ (a : Go.Addr), x_20 = Option.some a ∧ ∃ (x_38 : Option Go.Addr), ∃ (x_39 : Nat), ∃ (x_40
 : Nat), (∀ (u : Go.World), S u → Go.World.cell? u (Go.Addr.add a (0 : Nat)) = Option.some (Go.Value.slice x_38 x_39 x_40)) ∧ ((0 : Int) ≤ Go.IntKind.wrap Go.IntKind.i64 (Go.IntKind.wrap Go.IntKind.i64
 (Int.tdiv x_29 (2 : Int)) - (1 : Int)) ∧ Go.IntKind.wrap Go.IntKind.i64 (Go.IntKind.wrap Go.IntKind.i64 (Int.tdiv x_29 (2 : Int)) - (1 : Int)) ≤ (↑x_40 : Int)) ∧ ∃ (a : Go.Addr), x_20 = Option.some a ∧
 ∃ (x_41 : Option Go.Addr), ∃ (x_42 : Nat), ∃ (x_43 : Nat), (∀ (u : Go.World), S u → Go.World.cell? u (Go.Addr.add a (2 : Nat)) = Option.some (Go.Value.slice x_41 x_42 x_43)) ∧ ((0 : Int) ≤
 Go.IntKind.wrap Go.IntKind.i64 (Int.tdiv x_29 (2 : Int)) ∧ Go.IntKind.wrap Go.IntKind.i64 (Int.tdiv x_29 (2 : Int)) ≤ (↑x_43 : Int)) ∧ Go.Sx.CallsV Go.Proofs.Try.prog (73 : Nat) #[Go.Value.slice
 (Go.Sx.cutAt x_38 x_40 (0 : Nat) (1 : Nat)) (Int.toNat (Go.IntKind.wrap Go.IntKind.i64 (Go.IntKind.wrap Go.IntKind.i64 (Int.tdiv x_29 (2 : Int)) - (1 : Int))) - (0 : Nat)) (x_40 - (0 : Nat))]
 (Go.World.drew w') fun (v : Go.Value) (w' : Go.World) => ∃ (x_44 : Option Go.Addr), ∃ (x_45 : Nat), ∃ (x_46 : Nat), v = Go.Value.slice x_44 x_45 x_46 ∧ S w' ∧ Go.Sx.CallsV Go.Proofs.Try.prog (63 : Nat)
 #[Go.Value.slice (Go.Sx.cutAt x_41 x_43 (0 : Nat) (1 : Nat)) (Int.toNat (Go.IntKind.wrap Go.IntKind.i64 (Int.tdiv x_29 (2 : Int))) - (0 : Nat)) (x_43 - (0 : Nat))] w' fun (v : Go.Value) (w' : Go.World)
 => ∃ (x_47 : Option Go.Addr), ∃ (x_48 : Nat), ∃ (x_49 : Nat), v = Go.Value.slice x_47 x_48 x_49 ∧ S w' ∧ ∀ (g : Nat) (w'_1 : Go.World), Go.Sx.Fresh w' g w'_1 [Go.Value.slice x_44 x_45 x_46,
 Go.Value.slice Option.none (0 : Nat) (0 : Nat), Go.Value.slice x_47 x_48 x_49] (92 : Nat) → S w'_1 ∧ ∃ (ad : Go.Addr), x_33 = Option.some ad ∧ ((0 : Int) ≤ x ∧ x < (↑x_34 : Int)) ∧ Go.Sx.stOK
 (Go.Addr.add ad (Int.toNat x * (1 : Nat))) (0 : Nat) [Go.Value.pointer (Option.some (Go.Addr.mk g (0 : Nat) Option.none))] w'_1 ∧ ∀ (w' : Go.World), w' = Go.Sx.setAll (Go.Addr.add ad (Int.toNat x * (1
 : Nat))) (0 : Nat) [Go.Value.pointer (Option.some (Go.Addr.mk g (0 : Nat) Option.none))] w'_1 → J w') ∧ ∃ (a : Go.Addr), x_10 = Option.some a ∧ ∃ (x_20 : Option Go.Addr), ∃ (x_21 : Nat), ∃ (x_22 :
 Nat), Go.World.cell? w (Go.Addr.add a (2 : Nat)) = Option.some (Go.Value.slice x_20 x_21 x_22) ∧ bif !Option.isNone x_20 then ∃ (a : Go.Addr), x_10 = Option.some a ∧ ∃ (S : Go.World → Prop), S
 (Go.World.drew w) ∧ ∃ (x_23 : Option Go.Addr), ∃ (x_24 : Nat), ∃ (x_25 : Nat), (∀ (u : Go.World), S u → Go.World.cell? u (Go.Addr.add a (0 : Nat)) = Option.some (Go.Value.slice x_23 x_24 x_25)) ∧ ∃ (a
 : Go.Addr), x = Option.some a ∧ ∃ (x : Option Go.Addr), ∃ (x_26 : Nat), ∃ (x_27 : Nat), (∀ (u : Go.World), S u → Go.World.cell? u (Go.Addr.add a (0 : Nat)) = Option.some (Go.Value.slice x x_26 x_27)) ∧
 ∃ (ad : Go.Addr), x = Option.some ad ∧ ((0 : Int) ≤ k ∧ k < (↑x_26 : Int)) ∧ ∃ (x : Option Go.Addr), ∃ (x_28 : Nat), ∃ (x_29 : Nat), (∀ (u : Go.World), S u → Go.World.cell? u (Go.Addr.add ad (Int.toNat
 k * (1 : Nat))) = Option.some (Go.Value.slice x x_28 x_29)) ∧ ∃ (a : Go.Addr), x_18 = Option.some a ∧ ∃ (x_30 : Option Go.Addr), ∃ (x_31 : Nat), ∃ (x_32 : Nat), (∀ (u : Go.World), S u → Go.World.cell?
 u (Go.Addr.add a (0 : Nat)) = Option.some (Go.Value.slice x_30 x_31 x_32)) ∧ ∃ (a : Go.Addr), x_10 = Option.some a ∧ ∃ (x_33 : Option Go.Addr), ∃ (x_34 : Nat), ∃ (x_35 : Nat), (∀ (u : Go.World), S u →
 Go.World.cell? u (Go.Addr.add a (2 : Nat)) = Option.some (Go.Value.slice x_33 x_34 x_35)) ∧ ∃ (a : Go.Addr), x_18 = Option.some a ∧ ∃ (x_36 : Option Go.Addr), ∃ (x_37 : Nat), ∃ (x_38 : Nat), (∀ (u :
 Go.World), S u → Go.World.cell? u (Go.Addr.add a (2 : Nat)) = Option.some (Go.Value.slice x_36 x_37 x_38)) ∧ (∀ (g : Nat) (w' : Go.World), Go.Sx.Fresh (Go.World.drew w) g w' [Go.Value.slice x x_28
 x_29] (36 : Nat) → S w' ∧ (∀ (g_1 : Nat) (w'_1 : Go.World), Go.Sx.Fresh w' g_1 w'_1 [Go.Value.slice x_23 x_24 x_25, Go.Value.slice (Option.some (Go.Addr.mk g (0 : Nat) Option.none)) (1 : Nat) (1 :
 Nat), Go.Value.slice x_30 x_31 x_32] (90 : Nat) → S w'_1 ∧ (Go.Sx.CallsV Go.Proofs.Try.prog (86 : Nat) #[Go.Value.slice (Option.some (Go.Addr.mk g_1 (0 : Nat) Option.none)) (3 : Nat) (3 : Nat)] w'_1
 fun (v : Go.Value) (w' : Go.World) => ∃ (x : Option Go.Addr), ∃ (x_39 : Nat), ∃ (x_40 : Nat), v = Go.Value.slice x x_39 x_40 ∧ S w' ∧ ∀ (g : Nat) (w'_2 : Go.World), Go.Sx.Fresh w' g w'_2
 [Go.Value.slice x_33 x_34 x_35, Go.Value.slice x_36 x_37 x_38] (22 : Nat) → S w'_2 ∧ Go.Sx.CallsV Go.Proofs.Try.prog (87 : Nat) #[Go.Value.slice (Option.some (Go.Addr.mk g (0 : Nat) Option.none)) (2 :
 Nat) (2 : Nat)] w'_2 fun (v : Go.Value) (w' : Go.World) => ∃ (x_41 : Option Go.Addr), ∃ (x_42 : Nat), ∃ (x_43 : Nat), v = Go.Value.slice x_41 x_42 x_43 ∧ S w' ∧ ∀ (g : Nat) (w'_3 : Go.World),
 Go.Sx.Fresh w' g w'_3 [Go.Value.slice x x_39 x_40, Go.Value.slice Option.none (0 : Nat) (0 : Nat), Go.Value.slice x_41 x_42 x_43] (92 : Nat) → S w'_3 ∧ J (Option.some (Go.Addr.mk g (0 : Nat)
 Option.none)) w'_3) ∧ ∀ (g : Nat) (w' : Go.World), Go.Sx.Fresh w'_1 g w' [Go.Value.slice x_33 x_34 x_35, Go.Value.slice x_36 x_37 x_38] (22 : Nat) → S w' ∧ Go.Sx.CallsV Go.Proofs.Try.prog (86 : Nat)
 #[Go.Value.slice (Option.some (Go.Addr.mk g_1 (0 : Nat) Option.none)) (3 : Nat) (3 : Nat)] w' fun (v : Go.Value) (w' : Go.World) => ∃ (x : Option Go.Addr), ∃ (x_39 : Nat), ∃ (x_40 : Nat), v =
 Go.Value.slice x x_39 x_40 ∧ S w' ∧ Go.Sx.CallsV Go.Proofs.Try.prog (87 : Nat) #[Go.Value.slice (Option.some (Go.Addr.mk g (0 : Nat) Option.none)) (2 : Nat) (2 : Nat)] w' fun (v : Go.Value) (w' :
 Go.World) => ∃ (x_41 : Option Go.Addr), ∃ (x_42 : Nat), ∃ (x_43 : Nat), v = Go.Value.slice x_41 x_42 x_43 ∧ S w' ∧ ∀ (g : Nat) (w'_2 : Go.World), Go.Sx.Fresh w' g w'_2 [Go.Value.slice x x_39 x_40,
 Go.Value.slice Option.none (0 : Nat) (0 : Nat), Go.Value.slice x_41 x_42 x_43] (92 : Nat) → S w'_2 ∧ J (Option.some (Go.Addr.mk g (0 : Nat) Option.none)) w'_2) ∧ ∀ (g_1 : Nat) (w'_1 : Go.World),
 Go.Sx.Fresh w' g_1 w'_1 [Go.Value.slice x_33 x_34 x_35, Go.Value.slice x_36 x_37 x_38] (22 : Nat) → S w'_1 ∧ ∀ (g_2 : Nat) (w' : Go.World), Go.Sx.Fresh w'_1 g_2 w' [Go.Value.slice x_23 x_24 x_25,
 Go.Value.slice (Option.some (Go.Addr.mk g (0 : Nat) Option.none)) (1 : Nat) (1 : Nat), Go.Value.slice x_30 x_31 x_32] (90 : Nat) → S w' ∧ Go.Sx.CallsV Go.Proofs.Try.prog (86 : Nat) #[Go.Value.slice
 (Option.some (Go.Addr.mk g_2 (0 : Nat) Option.none)) (3 : Nat) (3 : Nat)] w' fun (v : Go.Value) (w' : Go.World) => ∃ (x : Option Go.Addr), ∃ (x_39 : Nat), ∃ (x_40 : Nat), v = Go.Value.slice x x_39 x_40
 ∧ S w' ∧ Go.Sx.CallsV Go.Proofs.Try.prog (87 : Nat) #[Go.Value.slice (Option.some (Go.Addr.mk g_1 (0 : Nat) Option.none)) (2 : Nat) (2 : Nat)] w' fun (v : Go.Value) (w' : Go.World) => ∃ (x_41 : Option
 Go.Addr), ∃ (x_42 : Nat), ∃ (x_43 : Nat), v = Go.Value.slice x_41 x_42 x_43 ∧ S w' ∧ ∀ (g : Nat) (w'_2 : Go.World), Go.Sx.Fresh w' g w'_2 [Go.Value.slice x x_39 x_40, Go.Value.slice Option.none (0 :
 Nat) (0 : Nat), Go.Value.slice x_41 x_42 x_43] (92 : Nat) → S w'_2 ∧ J (Option.some (Go.Addr.mk g (0 : Nat) Option.none)) w'_2) ∧ ∀ (g : Nat) (w' : Go.World), Go.Sx.Fresh (Go.World.drew w) g w'
 [Go.Value.slice x_33 x_34 x_35, Go.Value.slice x_36 x_37 x_38] (22 : Nat) → S w' ∧ ∀ (g_1 : Nat) (w'_1 : Go.World), Go.Sx.Fresh w' g_1 w'_1 [Go.Value.slice x x_28 x_29] (36 : Nat) → S w'_1 ∧ ∀ (g_2 :
 Nat) (w' : Go.World), Go.Sx.Fresh w'_1 g_2 w' [Go.Value.slice x_23 x_24 x_25, Go.Value.slice (Option.some (Go.Addr.mk g_1 (0 : Nat) Option.none)) (1 : Nat) (1 : Nat), Go.Value.slice x_30 x_31 x_32] (90
 : Nat) → S w' ∧ Go.Sx.CallsV Go.Proofs.Try.prog (86 : Nat) #[Go.Value.slice (Option.some (Go.Addr.mk g_2 (0 : Nat) Option.none)) (3 : Nat) (3 : Nat)] w' fun (v : Go.Value) (w' : Go.World) => ∃ (x :
 Option Go.Addr), ∃ (x_39 : Nat), ∃ (x_40 : Nat), v = Go.Value.slice x x_39 x_40 ∧ S w' ∧ Go.Sx.CallsV Go.Proofs.Try.prog (87 : Nat) #[Go.Value.slice (Option.some (Go.Addr.mk g (0 : Nat) Option.none))
 (2 : Nat) (2 : Nat)] w' fun (v : Go.Value) (w' : Go.World) => ∃ (x_41 : Option Go.Addr), ∃ (x_42 : Nat), ∃ (x_43 : Nat), v = Go.Value.slice x_41 x_42 x_43 ∧ S w' ∧ ∀ (g : Nat) (w'_2 : Go.World),
 Go.Sx.Fresh w' g w'_2 [Go.Value.slice x x_39 x_40, Go.Value.slice Option.none (0 : Nat) (0 : Nat), Go.Value.slice x_41 x_42 x_43] (92 : Nat) → S w'_2 ∧ J (Option.some (Go.Addr.mk g (0 : Nat)
 Option.none)) w'_2 else J x_19 w) ∧ ∃ (a : Go.Addr), x_10 = Option.some a ∧ ∃ (S : Go.World → Prop), S (Go.World.drew (Go.World.drew w)) ∧ ∃ (x : Option Go.Addr), ∃ (x_19 : Nat), ∃ (x_20 : Nat), (∀ (u
 : Go.World), S u → Go.World.cell? u (Go.Addr.add a (0 : Nat)) = Option.some (Go.Value.slice x x_19 x_20)) ∧ ∃ (a : Go.Addr), x_18 = Option.some a ∧ ∃ (x_21 : Option Go.Addr), ∃ (x_22 : Nat), ∃ (x_23 :
 Nat), (∀ (u : Go.World), S u → Go.World.cell? u (Go.Addr.add a (0 : Nat)) = Option.some (Go.Value.slice x_21 x_22 x_23)) ∧ ∃ (a : Go.Addr), x_10 = Option.some a ∧ ∃ (x_24 : Option Go.Addr), ∃ (x_25 :
 Nat), ∃ (x_26 : Nat), (∀ (u : Go.World), S u → Go.World.cell? u (Go.Addr.add a (1 : Nat)) = Option.some (Go.Value.slice x_24 x_25 x_26)) ∧ ∃ (a : Go.Addr), x_18 = Option.some a ∧ ∃ (x_27 : Option
 Go.Addr), ∃ (x_28 : Nat), ∃ (x_29 : Nat), (∀ (u : Go.World), S u → Go.World.cell? u (Go.Addr.add a (1 : Nat)) = Option.some (Go.Value.slice x_27 x_28 x_29)) ∧ (∀ (g : Nat) (w' : Go.World), Go.Sx.Fresh
 (Go.World.drew (Go.World.drew w)) g w' [Go.Value.slice x x_19 x_20, Go.Value.slice x_21 x_22 x_23] (90 : Nat) → S w' ∧ (Go.Sx.CallsV Go.Proofs.Try.prog (86 : Nat) #[Go.Value.slice (Option.some
 (Go.Addr.mk g (0 : Nat) Option.none)) (2 : Nat) (2 : Nat)] w' fun (v : Go.Value) (w' : Go.World) => ∃ (x : Option Go.Addr), ∃ (x_30 : Nat), ∃ (x_31 : Nat), v = Go.Value.slice x x_30 x_31 ∧ S w' ∧ ∀ (g
 : Nat) (w'_1 : Go.World), Go.Sx.Fresh w' g w'_1 [Go.Value.slice x_24 x_25 x_26, Go.Value.slice x_27 x_28 x_29] (90 : Nat) → Go.Sx.CallsV Go.Proofs.Try.prog (86 : Nat) #[Go.Value.slice (Option.some
 (Go.Addr.mk g (0 : Nat) Option.none)) (2 : Nat) (2 : Nat)] w'_1 fun (v : Go.Value) (w' : Go.World) => ∃ (x_32 : Option Go.Addr), ∃ (x_33 : Nat), ∃ (x_34 : Nat), v = Go.Value.slice x_32 x_33 x_34 ∧ ∀ (g
 : Nat) (w'_2 : Go.World), Go.Sx.Fresh w' g w'_2 [Go.Value.slice x x_30 x_31, Go.Value.slice x_32 x_33 x_34, Go.Value.slice Option.none (0 : Nat) (0 : Nat)] (92 : Nat) → J (Option.some (Go.Addr.mk g (0
 : Nat) Option.none)) w'_2) ∧ ∀ (g_1 : Nat) (w'_1 : Go.World), Go.Sx.Fresh w' g_1 w'_1 [Go.Value.slice x_24 x_25 x_26, Go.Value.slice x_27 x_28 x_29] (90 : Nat) → Go.Sx.CallsV Go.Proofs.Try.prog (86 :
 Nat) #[Go.Value.slice (Option.some (Go.Addr.mk g (0 : Nat) Option.none)) (2 : Nat) (2 : Nat)] w'_1 fun (v : Go.Value) (w' : Go.World) => ∃ (x : Option Go.Addr), ∃ (x_30 : Nat), ∃ (x_31 : Nat), v =
 Go.Value.slice x x_30 x_31 ∧ Go.Sx.CallsV Go.Proofs.Try.prog (86 : Nat) #[Go.Value.slice (Option.some (Go.Addr.mk g_1 (0 : Nat) Option.none)) (2 : Nat) (2 : Nat)] w' fun (v : Go.Value) (w' : Go.World)
 => ∃ (x_32 : Option Go.Addr), ∃ (x_33 : Nat), ∃ (x_34 : Nat), v = Go.Value.slice x_32 x_33 x_34 ∧ ∀ (g : Nat) (w'_2 : Go.World), Go.Sx.Fresh w' g w'_2 [Go.Value.slice x x_30 x_31, Go.Value.slice x_32
 x_33 x_34, Go.Value.slice Option.none (0 : Nat) (0 : Nat)] (92 : Nat) → J (Option.some (Go.Addr.mk g (0 : Nat) Option.none)) w'_2) ∧ ∀ (g : Nat) (w' : Go.World), Go.Sx.Fresh (Go.World.drew
 (Go.World.drew w)) g w' [Go.Value.slice x_24 x_25 x_26, Go.Value.slice x_27 x_28 x_29] (90 : Nat) → S w' ∧ ∀ (g_1 : Nat) (w'_1 : Go.World), Go.Sx.Fresh w' g_1 w'_1 [Go.Value.slice x x_19 x_20,
 Go.Value.slice x_21 x_22 x_23] (90 : Nat) → Go.Sx.CallsV Go.Proofs.Try.prog (86 : Nat) #[Go.Value.slice (Option.some (Go.Addr.mk g_1 (0 : Nat) Option.none)) (2 : Nat) (2 : Nat)] w'_1 fun (v : Go.Value)
 (w' : Go.World) => ∃ (x : Option Go.Addr), ∃ (x_30 : Nat), ∃ (x_31 : Nat), v = Go.Value.slice x x_30 x_31 ∧ Go.Sx.CallsV Go.Proofs.Try.prog (86 : Nat) #[Go.Value.slice (Option.some (Go.Addr.mk g (0 :
 Nat) Option.none)) (2 : Nat) (2 : Nat)] w' fun (v : Go.Value) (w' : Go.World) => ∃ (x_32 : Option Go.Addr), ∃ (x_33 : Nat), ∃ (x_34 : Nat), v = Go.Value.slice x_32 x_33 x_34 ∧ ∀ (g : Nat) (w'_2 :
 Go.World), Go.Sx.Fresh w' g w'_2 [Go.Value.slice x x_30 x_31, Go.Value.slice x_32 x_33 x_34, Go.Value.slice Option.none (0 : Nat) (0 : Nat)] (92 : Nat) → J (Option.some (Go.Addr.mk g (0 : Nat)
 Option.none)) w'_2
theorem tree_Arena_even.eq (a : Option Addr) (i : Int) (k : Int) (w : World) (K : Value → World → Prop) : tree_Arena_even.W a i k w K = fnW Try.prog Try.f79 (.named (.seq .auto (.seq .auto (.join [(9, .one .ptr)] .auto (.join [(9, .one .ptr)] .auto (.seq .auto (.seq .auto (.seq .auto (.seq (.seq .auto (.cond (.join [] .auto (.join [] .auto .auto)) (.join [] .auto (.join [] .auto .auto)))) .auto))))))))) [.pointer a, .int .i64 i, .int .i64 k] w K := by kernel_rfl
theorem tree_Arena_even.calls (ok : Okay Try.prog) {a : Option Addr} {i : Int} {k : Int} {w : World} {K : Value → World → Prop} (h : tree_Arena_even.W a i k w K) : CallsV Try.prog 79 #[.pointer a, .int .i64 i, .int .i64 k] w K :=
  fnW_calls ok Try.func79 (an := (.named (.seq .auto (.seq .auto (.join [(9, .one .ptr)] .auto (.join [(9, .one .ptr)] .auto (.seq .auto (.seq .auto (.seq .auto (.seq (.seq .auto (.cond (.join [] .auto (.join [] .auto .auto)) (.join [] .auto (.join [] .auto .auto)))) .auto)))))))))) (args := [.pointer a, .int .i64 i, .int .i64 k]) (by rw [← tree_Arena_even.eq]; exact h)
noncomputable def bytes_Compare.W : Option Addr → Nat → Nat → Option Addr → Nat → Nat → World → (Value → World → Prop) → Prop := fun (a_A : Option Go.Addr) (a_n a_c : Nat) (b_A : Option Go.Addr) (b_n
 b_c : Nat) (w : Go.World) (K : Go.Value → Go.World → Prop) => ∃ (x : Int), ∃ (w' : Go.World), Go.Sx.RunsTo Go.Proofs.Try.prog (Go.callFunc (71 : Nat) #[Go.Value.slice a_A a_n a_c, Go.Value.slice b_A
 b_n b_c]) w (Go.Next.value (Go.Value.int Go.IntKind.i64 x)) w' ∧ K (Go.Value.int Go.IntKind.i64 x) w'
theorem bytes_Compare.eq (a_A : Option Addr) (a_n : Nat) (a_c : Nat) (b_A : Option Addr) (b_n : Nat) (b_c : Nat) (w : World) (K : Value → World → Prop) : bytes_Compare.W a_A a_n a_c b_A b_n b_c w K = fnW Try.prog Try.f48 (.named .auto) [.slice a_A a_n a_c, .slice b_A b_n b_c] w K := by kernel_rfl
theorem bytes_Compare.calls (ok : Okay Try.prog) {a_A : Option Addr} {a_n : Nat} {a_c : Nat} {b_A : Option Addr} {b_n : Nat} {b_c : Nat} {w : World} {K : Value → World → Prop} (h : bytes_Compare.W a_A a_n a_c b_A b_n b_c w K) : CallsV Try.prog 48 #[.slice a_A a_n a_c, .slice b_A b_n b_c] w K :=
  fnW_calls ok Try.func48 (an := (.named .auto)) (args := [.slice a_A a_n a_c, .slice b_A b_n b_c]) (by rw [← bytes_Compare.eq]; exact h)
end Go.Proofs.Ytadlhdiejmilmaa
/- Layer 3, plain: rows as bytes and keys. -/
set_option linter.unusedVariables false
set_option linter.unusedSimpArgs false
namespace R1
open Go.Sx

structure V where
  k : Int
  n : Int
  s : ByteArray

/-- a right value -/
def right (v : V) : Bool :=
  if v.k = 0 then decide (v.n = 0 ∧ v.s.size = 0) else if v.k = 1 then decide (v.s.size = 0) else if v.k = 2 ∨ v.k = 3 then decide (v.n = 0 ∧ v.s.size ≤ 65536) else false
/-- a value that memory can hold -/
def good (v : V) : Prop := (0 ≤ v.k ∧ v.k ≤ 255) ∧ (-9223372036854775808 ≤ v.n ∧ v.n ≤ 9223372036854775807) ∧ v.s.size ≤ Go.maxLen
/-- may it be a row? -/
def rightRow (l : List V) : Int := if 200 < l.length then 3 else if l.all right then 0 else 2

/-! ## numbers -/
def fits (n : Int) (k : Nat) : Bool := decide (-(2 ^ (8 * k - 1) : Nat) ≤ n ∧ n < (2 ^ (8 * k - 1) : Nat))
def wideFrom (n : Int) : Nat → Nat → Nat
  | 0, k => k
  | f + 1, k => if fits n k then k else wideFrom n f (k + 1)
/-- as few bytes as tell a number -/
def wide (n : Int) : Nat := wideFrom n 7 1
theorem wideFrom_le (n : Int) : ∀ f k, k ≤ wideFrom n f k ∧ wideFrom n f k ≤ f + k
  | 0, k => by simp [wideFrom]
  | f + 1, k => by
    have := wideFrom_le n f (k + 1)
    unfold wideFrom; split <;> omega
theorem wide_pos (n : Int) : 1 ≤ wide n := (wideFrom_le n 7 1).1
theorem wide_le (n : Int) : wide n ≤ 8 := (wideFrom_le n 7 1).2
/-- the last k bytes of a number, the highest first -/
def hi (m : Nat) : Nat → List UInt8
  | 0 => []
  | k + 1 => (m / 256 ^ k % 256).toUInt8 :: hi m k
theorem hi_length (m : Nat) : ∀ k, (hi m k).length = k
  | 0 => rfl
  | k + 1 => by simp [hi, hi_length m k]

/-! ## keys -/
def esc : List UInt8 → List UInt8
  | [] => []
  | c :: r => if c = 0 then 0 :: 255 :: esc r else c :: esc r
theorem esc_append : ∀ (a b : List UInt8), esc (a ++ b) = esc a ++ esc b
  | [], b => rfl
  | c :: a, b => by
    rw [List.cons_append, esc, esc, esc_append a b]
    split <;> rfl
theorem esc_length : ∀ (a : List UInt8), (esc a).length ≤ 2 * a.length
  | [] => by simp [esc]
  | c :: a => by have := esc_length a; unfold esc; split <;> simp <;> omega
def kpart (v : V) : List UInt8 :=
  if v.k = 0 then [1] else if v.k = 1 then 2 :: hi (v.n + 9223372036854775808).toNat 8 else (if v.k = 2 then 3 else 4) :: esc (sb v.s) ++ [0, 0]
theorem part_length (v : V) : (kpart v).length ≤ 9 + 2 * v.s.size := by
  unfold kpart
  have := esc_length (sb v.s)
  rw [sb_length] at this
  split
  · simp; omega
  · split
    · simp [hi_length]
    · simp; omega
theorem kpart_pos (v : V) : 0 < (kpart v).length := by
  unfold kpart; split
  · simp
  · split <;> simp
def tn (d : Bool) (l : List UInt8) : List UInt8 := if d then l.map (fun b => ~~~b) else l
theorem tn_length (d : Bool) (l : List UInt8) : (tn d l).length = l.length := by unfold tn; split <;> simp
def key : List V → List Bool → List UInt8
  | v :: vs, d :: ds => tn d (kpart v) ++ key vs ds
  | _, _ => []
def keyR (l : List V) (ds : List Bool) : List UInt8 × Int :=
  if rightRow l ≠ 0 then ([], rightRow l) else if ds.length ≠ l.length then ([], 2) else if 1048576 < (key l ds).length then ([], 3) else (key l ds, 0)
theorem key_append : ∀ (a b : List V) (d e : List Bool), a.length = d.length → key (a ++ b) (d ++ e) = key a d ++ key b e
  | [], b, [], e, _ => rfl
  | v :: a, b, x :: d, e, h => by
    show tn x (kpart v) ++ key (a ++ b) (d ++ e) = _
    rw [key_append a b d e (by simpa using h)]; simp [key]
  | [], _, _ :: _, _, h => by simp at h
  | _ :: _, _, [], _, h => by simp at h
theorem key_snoc (l : List V) (ds : List Bool) (i : Nat) (h : i < l.length) (h2 : i < ds.length) : key (l.take (i + 1)) (ds.take (i + 1)) = key (l.take i) (ds.take i) ++ tn (ds[i]) (kpart l[i]) := by
  rw [List.take_add_one, List.take_add_one, key_append _ _ _ _ (by simp; omega)]
  simp [h, h2, key]
theorem key_le : ∀ (l : List V) (ds : List Bool) (M : Nat), (∀ v ∈ l, v.s.size ≤ M) → (key l ds).length ≤ l.length * (9 + 2 * M)
  | [], _, M, _ => by simp [key]
  | v :: l, [], M, _ => by simp [key]
  | v :: l, d :: ds, M, h => by
    have h1 := key_le l ds M (fun v hv => h v (List.mem_cons.2 (.inr hv)))
    have h2 := part_length v
    have h3 := h v (List.mem_cons.2 (.inl rfl))
    simp only [key, List.length_append, tn_length, List.length_cons, Nat.add_mul, Nat.one_mul]
    omega

/-! ## rows -/
def sort (v : V) : Nat := if v.k = 1 then wide v.n else if v.k = 3 then 2 * v.s.size + 10 else if v.k = 2 then 2 * v.s.size + 11 else 0
def body (v : V) : List UInt8 := (if v.k = 1 then hi (v.n % 18446744073709551616).toNat (wide v.n) else []) ++ sb v.s
theorem right_size {v : V} (h : right v = true) : v.s.size ≤ 65536 := by
  unfold right at h
  split at h
  · have := of_decide_eq_true h; omega
  · split at h
    · have := of_decide_eq_true h; omega
    · split at h
      · have := of_decide_eq_true h; omega
      · cases h
end R1
/- What all texts of a seat stand on: the program is right; tests of strings; values. -/
set_option linter.unusedVariables false
set_option linter.unusedSimpArgs false
namespace Go.Proofs.Ytadlhdiejmilmaa
open Go Go.Sx R1
theorem okay : Okay Try.prog := ⟨by kernel_rfl, by kernel_rfl⟩
theorem brS {l l' : List UInt8} {A B : Prop} (h1 : l = l' → A) (h2 : l ≠ l' → B) : cond (ByteArray.toList ⟨l.toArray⟩ == ByteArray.toList ⟨l'.toArray⟩) A B := by rw [eq_str]; exact brd h1 h2
theorem brnS {l l' : List UInt8} {A B : Prop} (h1 : l ≠ l' → A) (h2 : l = l' → B) : cond (!(ByteArray.toList ⟨l.toArray⟩ == ByteArray.toList ⟨l'.toArray⟩)) A B := by rw [eq_str]; exact brn h1 h2
/-- a value's cells -/
def vc (v : V) : List Value := [.int .u8 v.k, .int .i64 v.n, .string v.s]
def KV : Kd V := ⟨3, fun _ _ a cs => cs = vc a, fun h => by simp [h, vc], fun h _ => h⟩
theorem KV_pos : 0 < KV.size := by decide
theorem KV_one : ∀ (Ω : Nat → Prop) (w : World) a cs, KV.rep Ω w a cs → ∀ v ∈ cs, v.oneCell' = true := by
  intro Ω w a cs h v hv
  have h : cs = vc a := h
  subst h
  simp [vc] at hv
  rcases hv with rfl | rfl | rfl <;> rfl
def V0 : V := ⟨0, 0, ByteArray.empty⟩
end Go.Proofs.Ytadlhdiejmilmaa
/- Layer 4, plain: keys in order; entries in order; a node's search. -/
set_option linter.unusedVariables false
set_option linter.unusedSimpArgs false
namespace T4
open Go.Lib
abbrev Key := List UInt8
abbrev Es := List (Key × Key)
/-! ## the order of keys -/
def lt (a b : Key) : Prop := compareBytes a b < 0
instance (a b : Key) : Decidable (lt a b) := inferInstanceAs (Decidable (_ < _))
theorem cmp_self : ∀ a : Key, compareBytes a a = 0
  | [] => rfl
  | x :: a => by
    have h : ¬ x < x := fun h => by rw [UInt8.lt_iff_toNat_lt] at h; omega
    rw [compareBytes, if_neg h, if_neg h, cmp_self a]
theorem cmp_zero : ∀ a b : Key, compareBytes a b = 0 → a = b
  | [], [], _ => rfl
  | [], _ :: _, h => by simp [compareBytes] at h
  | _ :: _, [], h => by simp [compareBytes] at h
  | x :: a, y :: b, h => by
    rw [compareBytes] at h
    split at h
    · cases h
    · split at h
      · cases h
      · rename_i h1 h2
        rw [UInt8.lt_iff_toNat_lt] at h1 h2
        have : x = y := UInt8.toNat_inj.1 (by omega)
        rw [this, cmp_zero a b h]
theorem cmp_turn : ∀ a b : Key, compareBytes b a = - compareBytes a b
  | [], [] => rfl
  | [], _ :: _ => rfl
  | _ :: _, [] => rfl
  | x :: a, y :: b => by
    rw [compareBytes, compareBytes]
    by_cases h1 : x < y
    · have h2 : ¬ y < x := fun h => by rw [UInt8.lt_iff_toNat_lt] at h h1; omega
      rw [if_neg h2, if_pos h1, if_pos h1]; rfl
    · by_cases h2 : y < x
      · rw [if_pos h2, if_neg h1, if_pos h2]
      · rw [if_neg h2, if_neg h1, if_neg h1, if_neg h2, cmp_turn a b]
theorem cmp_range : ∀ a b : Key, compareBytes a b = -1 ∨ compareBytes a b = 0 ∨ compareBytes a b = 1
  | [], [] => .inr (.inl rfl)
  | [], _ :: _ => .inl rfl
  | _ :: _, [] => .inr (.inr rfl)
  | x :: a, y :: b => by
    rw [compareBytes]
    split
    · exact .inl rfl
    · split
      · exact .inr (.inr rfl)
      · exact cmp_range a b
theorem lt_trans : ∀ {a b c : Key}, lt a b → lt b c → lt a c := by
  intro a
  unfold lt
  induction a with
  | nil =>
    intro b c h1 h2
    cases b with
    | nil => simp [compareBytes] at h1
    | cons y b =>
      cases c with
      | nil => simp [compareBytes] at h2
      | cons z c => simp [compareBytes]
  | cons x a ih =>
    intro b c h1 h2
    cases b with
    | nil => simp [compareBytes] at h1
    | cons y b =>
      cases c with
      | nil => simp [compareBytes] at h2
      | cons z c =>
        rw [compareBytes] at h1 h2 ⊢
        simp only [UInt8.lt_iff_toNat_lt] at h1 h2 ⊢
        split at h1
        · split at h2
          · rw [if_pos (by omega)]; decide
          · split at h2
            · cases h2
            · rw [if_pos (by omega)]; decide
        · split at h1
          · cases h1
          · split at h2
            · rw [if_pos (by omega)]; decide
            · split at h2
              · cases h2
              · rw [if_neg (by omega), if_neg (by omega)]
                exact ih h1 h2
theorem lt_irrefl (a : Key) : ¬ lt a a := by unfold lt; rw [cmp_self]; decide
theorem lt_asymm {a b : Key} (h : lt a b) : ¬ lt b a := fun h' => lt_irrefl a (lt_trans h h')
theorem lt_ne {a b : Key} (h : lt a b) : a ≠ b := fun e => by subst e; exact lt_irrefl a h
theorem lt_tri (a b : Key) : lt a b ∨ a = b ∨ lt b a := by
  unfold lt
  rcases cmp_range a b with h | h | h
  · exact .inl (by omega)
  · exact .inr (.inl (cmp_zero a b h))
  · exact .inr (.inr (by rw [cmp_turn a b]; omega))
theorem nlt {a b : Key} (h : ¬ lt a b) : b = a ∨ lt b a := by
  rcases lt_tri a b with h' | h' | h'
  · exact absurd h' h
  · exact .inl h'.symm
  · exact .inr h'
theorem lt_of_lt_nlt {a b c : Key} (h : lt a b) (h' : ¬ lt c b) : lt a c := by
  rcases nlt h' with e | h2
  · subst e; exact h
  · exact lt_trans h h2
theorem lt_of_nlt_lt {a b c : Key} (h : ¬ lt b a) (h' : lt b c) : lt a c := by
  rcases nlt h with e | h2
  · subst e; exact h'
  · exact lt_trans h2 h'
/-- keys in order, each once -/
abbrev Up (ks : List Key) : Prop := ks.Pairwise lt
/-! ## a place among keys -/
def pos (ks : List Key) (key : Key) : Nat := (ks.takeWhile fun k => decide (lt k key)).length
def has (ks : List Key) (key : Key) : Bool := decide (ks[pos ks key]? = some key)
/-- how many keys are not above one -/
def bel (ks : List Key) (key : Key) : Nat := (ks.takeWhile fun k => !decide (lt key k)).length
theorem pos_le (ks : List Key) (key : Key) : pos ks key ≤ ks.length := by unfold pos; exact (List.takeWhile_sublist _).length_le
theorem bel_le (ks : List Key) (key : Key) : bel ks key ≤ ks.length := by unfold bel; exact (List.takeWhile_sublist _).length_le
theorem pos_nil (key : Key) : pos [] key = 0 := rfl
theorem pos_cons (k : Key) (ks : List Key) (key : Key) : pos (k :: ks) key = if lt k key then pos ks key + 1 else 0 := by
  unfold pos
  rw [List.takeWhile_cons]
  by_cases h : lt k key <;> simp [h]
theorem bel_cons (k : Key) (ks : List Key) (key : Key) : bel (k :: ks) key = if lt key k then 0 else bel ks key + 1 := by
  unfold bel
  rw [List.takeWhile_cons]
  by_cases h : lt key k <;> simp [h]
theorem has_cons (k : Key) (ks : List Key) (key : Key) : has (k :: ks) key = if lt k key then has ks key else decide (k = key) := by
  unfold has
  rw [pos_cons]
  by_cases h : lt k key <;> simp [h]
theorem bel_pos {ks : List Key} (h : Up ks) (key : Key) : bel ks key = pos ks key + (if has ks key then 1 else 0) := by
  induction ks with
  | nil => rfl
  | cons k ks ih =>
    obtain ⟨h1, h2⟩ := List.pairwise_cons.1 h
    rw [bel_cons, pos_cons, has_cons]
    rcases lt_tri k key with h3 | h3 | h3
    · rw [if_neg (lt_asymm h3), if_pos h3, if_pos h3, ih h2]; omega
    · subst h3
      rw [if_neg (lt_irrefl _), if_neg (lt_irrefl _), if_neg (lt_irrefl _)]
      have : bel ks k = 0 := by
        cases ks with
        | nil => rfl
        | cons y ks => rw [bel_cons, if_pos (h1 y (by simp))]
      simp [this]
    · rw [if_pos h3, if_neg (lt_asymm h3), if_neg (lt_asymm h3)]
      have : decide (k = key) = false := by simpa using (fun e : k = key => lt_irrefl key (e ▸ h3))
      rw [this]; rfl
theorem pos_lt {ks : List Key} {key : Key} {j : Nat} (h : j < pos ks key) (hj : j < ks.length) : lt ks[j] key := by
  induction ks generalizing j with
  | nil => simp at hj
  | cons k ks ih =>
    rw [pos_cons] at h
    split at h
    · cases j with
      | zero => assumption
      | succ j => exact ih (by omega) (by simpa using hj)
    · omega
theorem pos_ge {ks : List Key} (hu : Up ks) {key : Key} {j : Nat} (h : pos ks key ≤ j) (hj : j < ks.length) : ¬ lt ks[j] key := by
  induction ks generalizing j with
  | nil => simp at hj
  | cons k ks ih =>
    obtain ⟨h1, h2⟩ := List.pairwise_cons.1 hu
    rw [pos_cons] at h
    split at h
    · cases j with
      | zero => omega
      | succ j => exact ih h2 (by omega) (by simpa using hj)
    · rename_i hk
      cases j with
      | zero => exact hk
      | succ j =>
        intro h3
        exact hk (lt_trans (h1 (ks[j]'(by simpa using hj)) (by simp)) h3)
/-- the one place where a search may end -/
theorem pos_unique {ks : List Key} (hu : Up ks) {key : Key} {i : Nat} (hi : i ≤ ks.length) (h1 : ∀ j (hj : j < ks.length), j < i → lt ks[j] key) (h2 : ∀ j (hj : j < ks.length), i ≤ j → ¬ lt ks[j] key) : i = pos ks key := by
  have hp := pos_le ks key
  rcases Nat.lt_trichotomy i (pos ks key) with h | h | h
  · exact absurd (pos_lt h (by omega)) (h2 i (by omega) (Nat.le_refl _))
  · exact h
  · exact absurd (h1 (pos ks key) (by omega) h) (pos_ge hu (Nat.le_refl _) (by omega))
/-! ## entries in order -/
def keysE (es : Es) : List Key := es.map (·.1)
def valsE (es : Es) : List Key := es.map (·.2)
abbrev UpE (es : Es) : Prop := Up (keysE es)
def insE (key val : Key) : Es → Es
  | [] => [(key, val)]
  | (k, v) :: r => if lt k key then (k, v) :: insE key val r else if k = key then (key, val) :: r else (key, val) :: (k, v) :: r
def delE (key : Key) : Es → Es
  | [] => []
  | (k, v) :: r => if lt k key then (k, v) :: delE key r else if k = key then r else (k, v) :: r
def getE (key : Key) : Es → Option Key
  | [] => none
  | (k, v) :: r => if lt k key then getE key r else if k = key then some v else none
def inE (key : Key) (es : Es) : Bool := (getE key es).isSome
/-- the first one behind a key (or at it) -/
def aftE (key : Key) (at_ : Bool) : Es → Option (Key × Key)
  | [] => none
  | (k, v) :: r => if lt key k ∨ (at_ = true ∧ k = key) then some (k, v) else aftE key at_ r
/-- the last one ahead of a key (or at it) -/
def befE (key : Key) (at_ : Bool) : Es → Option (Key × Key)
  | [] => none
  | (k, v) :: r => if lt k key ∨ (at_ = true ∧ k = key) then (match befE key at_ r with | some x => some x | none => some (k, v)) else none
theorem insE_low {key val : Key} : ∀ {a b : Es}, (∀ x ∈ a, lt x.1 key) → insE key val (a ++ b) = a ++ insE key val b
  | [], b, _ => rfl
  | (k, v) :: a, b, h => by
    rw [List.cons_append, insE, if_pos (h (k, v) (by simp)), insE_low (fun x hx => h x (by simp [hx])), List.cons_append]
theorem insE_high {key val : Key} : ∀ {a b : Es}, (∀ x ∈ b, lt key x.1) → insE key val (a ++ b) = insE key val a ++ b
  | [], [], _ => rfl
  | [], (k, v) :: b, h => by
    have h1 := h (k, v) (by simp)
    have : k ≠ key := fun e => lt_ne h1 e.symm
    show insE key val ((k, v) :: b) = _
    have h2 : ¬ lt k key := lt_asymm h1
    rw [insE, insE, if_neg h2, if_neg this]; rfl
  | (k, v) :: a, b, h => by
    rw [List.cons_append, insE, insE]
    split
    · rw [insE_high h]; rfl
    · split <;> rfl
theorem delE_low {key : Key} : ∀ {a b : Es}, (∀ x ∈ a, lt x.1 key) → delE key (a ++ b) = a ++ delE key b
  | [], b, _ => rfl
  | (k, v) :: a, b, h => by
    rw [List.cons_append, delE, if_pos (h (k, v) (by simp)), delE_low (fun x hx => h x (by simp [hx])), List.cons_append]
theorem delE_high {key : Key} : ∀ {a b : Es}, (∀ x ∈ b, lt key x.1) → delE key (a ++ b) = delE key a ++ b
  | [], [], _ => rfl
  | [], (k, v) :: b, h => by
    have h1 := h (k, v) (by simp)
    have : k ≠ key := fun e => lt_ne h1 e.symm
    show delE key ((k, v) :: b) = _
    have h2 : ¬ lt k key := lt_asymm h1
    rw [delE, delE, if_neg h2, if_neg this]; rfl
  | (k, v) :: a, b, h => by
    rw [List.cons_append, delE, delE]
    split
    · rw [delE_high h]; rfl
    · split <;> rfl
theorem getE_low {key : Key} : ∀ {a b : Es}, (∀ x ∈ a, lt x.1 key) → getE key (a ++ b) = getE key b
  | [], b, _ => rfl
  | (k, v) :: a, b, h => by
    rw [List.cons_append, getE, if_pos (h (k, v) (by simp)), getE_low (fun x hx => h x (by simp [hx]))]
theorem getE_high {key : Key} : ∀ {a b : Es}, (∀ x ∈ b, lt key x.1) → getE key (a ++ b) = getE key a
  | [], [], _ => rfl
  | [], (k, v) :: b, h => by
    have h1 := h (k, v) (by simp)
    have : k ≠ key := fun e => lt_ne h1 e.symm
    show getE key ((k, v) :: b) = _
    have h2 : ¬ lt k key := lt_asymm h1
    rw [getE, getE, if_neg h2, if_neg this]
  | (k, v) :: a, b, h => by
    rw [List.cons_append, getE, getE]
    split
    · rw [getE_high h]
    · split <;> rfl
theorem aftE_low {key : Key} {at_ : Bool} : ∀ {a b : Es}, (∀ x ∈ a, lt x.1 key) → aftE key at_ (a ++ b) = aftE key at_ b
  | [], b, _ => rfl
  | (k, v) :: a, b, h => by
    have h1 := h (k, v) (by simp)
    have h2 : ¬ (lt key k ∨ (at_ = true ∧ k = key)) := by
      rintro (h' | ⟨_, h'⟩)
      · exact lt_asymm h1 h'
      · exact lt_ne h1 h'
    rw [List.cons_append, aftE, if_neg h2, aftE_low (fun x hx => h x (by simp [hx]))]
theorem aftE_app {key : Key} {at_ : Bool} : ∀ {a b : Es}, aftE key at_ (a ++ b) = match aftE key at_ a with | some x => some x | none => aftE key at_ b
  | [], b => rfl
  | (k, v) :: a, b => by
    rw [List.cons_append, aftE, aftE]
    split
    · rfl
    · exact aftE_app
theorem aftE_head {key : Key} {at_ : Bool} {b : Es} (h : ∀ x ∈ b, lt key x.1) : aftE key at_ b = b.head? := by
  cases b with
  | nil => rfl
  | cons x b => obtain ⟨k, v⟩ := x; rw [aftE, if_pos (.inl (h (k, v) (by simp)))]; rfl
theorem befE_high {key : Key} {at_ : Bool} : ∀ {a b : Es}, (∀ x ∈ b, lt key x.1) → befE key at_ (a ++ b) = befE key at_ a
  | [], [], _ => rfl
  | [], (k, v) :: b, h => by
    have h1 := h (k, v) (by simp)
    have h2 : ¬ (lt k key ∨ (at_ = true ∧ k = key)) := by
      rintro (h' | ⟨_, h'⟩)
      · exact lt_asymm h1 h'
      · exact lt_ne h1 h'.symm
    show befE key at_ ((k, v) :: b) = _
    rw [befE, befE, if_neg h2]
  | (k, v) :: a, b, h => by
    rw [List.cons_append, befE, befE, befE_high h]
theorem befE_low {key : Key} {at_ : Bool} : ∀ {a b : Es}, (∀ x ∈ a, lt x.1 key) → befE key at_ (a ++ b) = match befE key at_ b with | some x => some x | none => a.getLast?
  | [], b, _ => by cases h : befE key at_ b <;> simp [h]
  | (k, v) :: a, b, h => by
    have h1 := h (k, v) (by simp)
    rw [List.cons_append, befE, if_pos (.inl h1), befE_low (fun x hx => h x (by simp [hx]))]
    cases befE key at_ b with
    | some x => rfl
    | none =>
      cases a with
      | nil => rfl
      | cons y a => simp [List.getLast?_cons]
theorem keysE_append (a b : Es) : keysE (a ++ b) = keysE a ++ keysE b := by simp [keysE]
theorem valsE_append (a b : Es) : valsE (a ++ b) = valsE a ++ valsE b := by simp [valsE]
theorem keysE_length (a : Es) : (keysE a).length = a.length := by simp [keysE]
theorem valsE_length (a : Es) : (valsE a).length = a.length := by simp [valsE]
/-- at its place, of keys in order -/
theorem ins_has {key val : Key} : ∀ {es : Es}, has (keysE es) key = true → keysE (insE key val es) = keysE es ∧ valsE (insE key val es) = (valsE es).set (pos (keysE es) key) val
  | [], h => by simp [has, keysE, pos] at h
  | (k, v) :: r, h => by
    simp only [keysE, valsE, List.map_cons] at h ⊢
    rw [has_cons] at h
    rw [insE, pos_cons]
    by_cases h1 : lt k key
    · rw [if_pos h1] at h ⊢
      rw [if_pos h1]
      obtain ⟨h2, h3⟩ := ins_has (val := val) (es := r) h
      simp only [keysE, valsE] at h2 h3
      simp only [List.map_cons, h2, h3, List.set_cons_succ, and_self]
    · rw [if_neg h1] at h ⊢
      rw [if_neg h1, if_pos (of_decide_eq_true h)]
      have := of_decide_eq_true h
      subst this
      simp
theorem ins_no {key val : Key} : ∀ {es : Es}, has (keysE es) key = false → keysE (insE key val es) = (keysE es).insertIdx (pos (keysE es) key) key ∧ valsE (insE key val es) = (valsE es).insertIdx (pos (keysE es) key) val
  | [], h => by simp [keysE, valsE, insE, pos]
  | (k, v) :: r, h => by
    simp only [keysE, valsE, List.map_cons] at h ⊢
    rw [has_cons] at h
    rw [insE, pos_cons]
    by_cases h1 : lt k key
    · rw [if_pos h1] at h ⊢
      rw [if_pos h1]
      obtain ⟨h2, h3⟩ := ins_no (val := val) (es := r) h
      simp only [keysE, valsE] at h2 h3
      simp only [List.map_cons, h2, h3, List.insertIdx_succ_cons, and_self]
    · rw [if_neg h1] at h ⊢
      rw [if_neg h1, if_neg (of_decide_eq_false h)]
      simp
theorem del_has {key : Key} : ∀ {es : Es}, has (keysE es) key = true → keysE (delE key es) = (keysE es).eraseIdx (pos (keysE es) key) ∧ valsE (delE key es) = (valsE es).eraseIdx (pos (keysE es) key)
  | [], h => by simp [has, keysE, pos] at h
  | (k, v) :: r, h => by
    simp only [keysE, valsE, List.map_cons] at h ⊢
    rw [has_cons] at h
    rw [delE, pos_cons]
    by_cases h1 : lt k key
    · rw [if_pos h1] at h ⊢
      rw [if_pos h1]
      obtain ⟨h2, h3⟩ := del_has (es := r) h
      simp only [keysE, valsE] at h2 h3
      simp only [List.map_cons, h2, h3, List.eraseIdx_cons_succ, and_self]
    · rw [if_neg h1] at h ⊢
      rw [if_neg h1, if_pos (of_decide_eq_true h)]
      simp
theorem del_no {key : Key} : ∀ {es : Es}, has (keysE es) key = false → delE key es = es
  | [], h => rfl
  | (k, v) :: r, h => by
    simp only [keysE, List.map_cons] at h
    rw [has_cons] at h
    rw [delE]
    by_cases h1 : lt k key
    · rw [if_pos h1] at h ⊢
      rw [del_no (es := r) h]
    · rw [if_neg h1] at h ⊢
      rw [if_neg (of_decide_eq_false h)]
theorem get_has {key : Key} : ∀ {es : Es}, getE key es = if has (keysE es) key then (valsE es)[pos (keysE es) key]? else none
  | [] => by simp [getE, has, keysE, pos]
  | (k, v) :: r => by
    simp only [keysE, valsE, List.map_cons]
    rw [has_cons, pos_cons, getE]
    by_cases h1 : lt k key
    · rw [if_pos h1, if_pos h1, if_pos h1, get_has (es := r)]
      simp [keysE, valsE]
    · rw [if_neg h1, if_neg h1, if_neg h1]
      by_cases h2 : k = key <;> simp [h2]
theorem aft_pos {key : Key} {at_ : Bool} : ∀ {es : Es}, UpE es → aftE key at_ es = es[pos (keysE es) key + (if has (keysE es) key && !at_ then 1 else 0)]?
  | [], _ => by simp [aftE]
  | (k, v) :: r, hu => by
    have hu : Up (k :: keysE r) := hu
    obtain ⟨h1, h2⟩ := List.pairwise_cons.1 hu
    show aftE key at_ ((k, v) :: r) = ((k, v) :: r)[pos (k :: keysE r) key + (if has (k :: keysE r) key && !at_ then 1 else 0)]?
    rw [has_cons, pos_cons, aftE]
    rcases lt_tri k key with h3 | h3 | h3
    · have h4 : ¬ (lt key k ∨ (at_ = true ∧ k = key)) := by
        rintro (h' | ⟨_, h'⟩)
        · exact lt_asymm h3 h'
        · exact lt_ne h3 h'
      rw [if_neg h4, if_pos h3, if_pos h3, aft_pos h2, Nat.add_right_comm]
      simp
    · subst h3
      rw [if_neg (lt_irrefl _), if_neg (lt_irrefl _), decide_eq_true rfl]
      cases at_ with
      | true => rw [if_pos (.inr ⟨rfl, rfl⟩)]; simp
      | false =>
        rw [if_neg (by rintro (h | ⟨h, _⟩); exact lt_irrefl _ h; cases h)]
        have : aftE k false r = r.head? := aftE_head (fun x hx => h1 x.1 (List.mem_map.2 ⟨x, hx, rfl⟩))
        rw [this]
        cases r <;> simp
    · rw [if_pos (.inl h3), if_neg (lt_asymm h3), if_neg (lt_asymm h3)]
      have : decide (k = key) = false := by simpa using (fun e : k = key => lt_irrefl key (e ▸ h3))
      rw [this]; simp
theorem bef_pos {key : Key} {at_ : Bool} : ∀ {es : Es}, UpE es → befE key at_ es = (if has (keysE es) key && at_ then es[pos (keysE es) key]? else if pos (keysE es) key = 0 then none else es[pos (keysE es) key - 1]?)
  | [], _ => by simp [befE, has, keysE, pos]
  | (k, v) :: r, hu => by
    have hu : Up (k :: keysE r) := hu
    obtain ⟨h1, h2⟩ := List.pairwise_cons.1 hu
    show befE key at_ ((k, v) :: r) = (if has (k :: keysE r) key && at_ then ((k, v) :: r)[pos (k :: keysE r) key]? else if pos (k :: keysE r) key = 0 then none else ((k, v) :: r)[pos (k :: keysE r) key - 1]?)
    rw [has_cons, pos_cons, befE]
    rcases lt_tri k key with h3 | h3 | h3
    · rw [if_pos (.inl h3), if_pos h3, if_pos h3, bef_pos h2]
      have hpl := pos_le (keysE r) key
      rw [keysE_length] at hpl
      cases hh : (has (keysE r) key && at_) with
      | true =>
        simp only [if_true]
        have hl : pos (keysE r) key < r.length := by
          have : has (keysE r) key = true := by simp at hh; exact hh.1
          have := of_decide_eq_true this
          have := (List.getElem?_eq_some_iff.1 this).1
          rwa [keysE_length] at this
        rw [List.getElem?_eq_getElem hl]
        simp [hl]
      | false =>
        simp only [Bool.false_eq_true, if_false, Nat.add_eq_zero_iff, Nat.succ_ne_self, and_false, Nat.add_sub_cancel]
        by_cases h0 : pos (keysE r) key = 0
        · rw [if_pos h0, h0]; simp
        · rw [if_neg h0]
          have hl : pos (keysE r) key - 1 < r.length := by omega
          rw [List.getElem?_eq_getElem hl]
          obtain ⟨q, hq⟩ : ∃ q, pos (keysE r) key = q + 1 := ⟨pos (keysE r) key - 1, by omega⟩
          simp [hq] at hl ⊢
    · subst h3
      rw [if_neg (lt_irrefl _), if_neg (lt_irrefl _), decide_eq_true rfl]
      have hb : befE k at_ r = none := by
        cases r with
        | nil => rfl
        | cons y r =>
          have h4 := h1 y.1 (by simp [keysE])
          obtain ⟨y1, y2⟩ := y
          rw [befE, if_neg]
          rintro (h' | ⟨_, h'⟩)
          · exact lt_asymm h4 h'
          · exact lt_ne h4 h'.symm
      cases at_ with
      | true => rw [if_pos (.inr ⟨rfl, rfl⟩), hb]; simp
      | false => rw [if_neg (by rintro (h | ⟨h, _⟩); exact lt_irrefl _ h; cases h)]; simp
    · have h4 : ¬ (lt k key ∨ (at_ = true ∧ k = key)) := by
        rintro (h' | ⟨_, h'⟩)
        · exact lt_asymm h3 h'
        · exact lt_ne h3 h'.symm
      rw [if_neg h4, if_neg (lt_asymm h3), if_neg (lt_asymm h3)]
      have : decide (k = key) = false := by simpa using (fun e : k = key => lt_irrefl key (e ▸ h3))
      rw [this]; simp
theorem insE_mem {key val : Key} : ∀ {es : Es} {x : Key × Key}, x ∈ insE key val es → x = (key, val) ∨ x ∈ es
  | [], x, h => by simp [insE] at h; exact .inl h
  | (k, v) :: r, x, h => by
    rw [insE] at h
    split at h
    · rcases List.mem_cons.1 h with h | h
      · exact .inr (by simp [h])
      · rcases insE_mem h with h | h
        · exact .inl h
        · exact .inr (by simp [h])
    · split at h
      · rcases List.mem_cons.1 h with h | h
        · exact .inl h
        · exact .inr (by simp [h])
      · rcases List.mem_cons.1 h with h | h
        · exact .inl h
        · exact .inr h
theorem insE_up {key val : Key} : ∀ {es : Es}, UpE es → UpE (insE key val es)
  | [], _ => by show Up [key]; exact List.pairwise_singleton _ _
  | (k, v) :: r, hu => by
    have hu : Up (k :: keysE r) := hu
    obtain ⟨h1, h2⟩ := List.pairwise_cons.1 hu
    rw [insE]
    split
    · rename_i h3
      show Up (k :: keysE (insE key val r))
      refine List.pairwise_cons.2 ⟨fun y hy => ?_, insE_up h2⟩
      obtain ⟨x, hx, rfl⟩ := List.mem_map.1 hy
      rcases insE_mem hx with rfl | hx
      · exact h3
      · exact h1 x.1 (List.mem_map.2 ⟨x, hx, rfl⟩)
    · split
      · rename_i h3 h4
        subst h4
        exact hu
      · rename_i h3 h4
        show Up (key :: k :: keysE r)
        have h5 : lt key k := (nlt h3).resolve_left (fun e => h4 e.symm)
        refine List.pairwise_cons.2 ⟨fun y hy => ?_, hu⟩
        rcases List.mem_cons.1 hy with rfl | hy
        · exact h5
        · exact lt_trans h5 (h1 y hy)
theorem delE_sub {key : Key} : ∀ {es : Es}, (delE key es).Sublist es
  | [] => List.Sublist.slnil
  | (k, v) :: r => by
    rw [delE]
    split
    · exact delE_sub.cons_cons _
    · split
      · exact List.sublist_cons_self _ _
      · exact List.Sublist.refl _
theorem delE_up {key : Key} {es : Es} (h : UpE es) : UpE (delE key es) := List.Pairwise.sublist (delE_sub.map _) h
theorem insE_len {key val : Key} : ∀ {es : Es}, (insE key val es).length = es.length + (if has (keysE es) key then 0 else 1)
  | [] => by simp [insE, has, keysE, pos]
  | (k, v) :: r => by
    have ih := insE_len (key := key) (val := val) (es := r)
    show _ = _ + (if has (k :: keysE r) key then 0 else 1)
    rw [insE, has_cons]
    by_cases h1 : lt k key
    · rw [if_pos h1, if_pos h1, List.length_cons, List.length_cons, ih]; omega
    · rw [if_neg h1, if_neg h1]
      by_cases h2 : k = key
      · rw [if_pos h2]; simp [h2]
      · rw [if_neg h2]; simp [h2]
theorem delE_len {key : Key} : ∀ {es : Es}, (delE key es).length + (if has (keysE es) key then 1 else 0) = es.length
  | [] => by simp [delE, has, keysE, pos]
  | (k, v) :: r => by
    have ih := delE_len (key := key) (es := r)
    show _ + (if has (k :: keysE r) key then 1 else 0) = _
    rw [delE, has_cons]
    by_cases h1 : lt k key
    · rw [if_pos h1, if_pos h1, List.length_cons, List.length_cons, ← ih]; omega
    · rw [if_neg h1, if_neg h1]
      by_cases h2 : k = key
      · rw [if_pos h2]; simp [h2]
      · rw [if_neg h2]; simp [h2]
end T4
