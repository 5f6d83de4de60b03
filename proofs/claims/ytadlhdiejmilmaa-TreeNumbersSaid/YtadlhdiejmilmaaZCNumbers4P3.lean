/- Part 3 of the texts of this claim: the engine, contracts, plain laws. -/
import Derived.Test.YtadlhdiejmilmaaProg
import Derived.Test.YtadlhdiejmilmaaZCNumbers4P1
/- The preconditions of Go functions, printed by a program of this workplace (nests.py); each is proved to be the engine's own. -/
set_option linter.unusedVariables false
set_option maxRecDepth 100000
namespace Go.Proofs.Ytadlhdiejmilmaa
open Go Go.Sx
noncomputable def slices_Clone_byte_byte.W : Option Addr → Nat → Nat → World → (Value → World → Prop) → Prop := fun (s_A : Option Go.Addr) (s_n s_c : Nat) (w : Go.World) (K : Go.Value → Go.World →
 Prop) => bif Option.isNone s_A then K (Go.Value.slice Option.none (0 : Nat) (0 : Nat)) w else ∀ (g : Nat) (w' : Go.World), Go.Sx.Fresh w g w' [] (5 : Nat) → ∃ (x : Option Go.Addr), ∃ (x_1 : Nat), ∃
 (x_2 : Nat), ∃ (w'_1 : Go.World), Go.Sx.RunsTo Go.Proofs.Try.prog (Go.Builtin.append_ (Array.mk [(36 : Nat), (36 : Nat)]) (36 : Nat) #[Go.Value.slice (Option.some (Go.Addr.mk g (0 : Nat) Option.none))
 (0 : Nat) (0 : Nat), Go.Value.slice s_A s_n s_c]) w' (Go.Value.slice x x_1 x_2) w'_1 ∧ K (Go.Value.slice x x_1 x_2) w'_1
theorem slices_Clone_byte_byte.eq (s_A : Option Addr) (s_n : Nat) (s_c : Nat) (w : World) (K : Value → World → Prop) : slices_Clone_byte_byte.W s_A s_n s_c w K = fnW Try.prog Try.f51 (.named .auto) [.slice s_A s_n s_c] w K := by kernel_rfl
theorem slices_Clone_byte_byte.calls (ok : Okay Try.prog) {s_A : Option Addr} {s_n : Nat} {s_c : Nat} {w : World} {K : Value → World → Prop} (h : slices_Clone_byte_byte.W s_A s_n s_c w K) : CallsV Try.prog 51 #[.slice s_A s_n s_c] w K :=
  fnW_calls ok Try.func51 (an := (.named .auto)) (args := [.slice s_A s_n s_c]) (by rw [← slices_Clone_byte_byte.eq]; exact h)
noncomputable def slices_Clone_tree_node_tree_node.W : Option Addr → Nat → Nat → World → (Value → World → Prop) → Prop := fun (s_A : Option Go.Addr) (s_n s_c : Nat) (w : Go.World) (K : Go.Value →
 Go.World → Prop) => bif Option.isNone s_A then K (Go.Value.slice Option.none (0 : Nat) (0 : Nat)) w else ∀ (g : Nat) (w' : Go.World), Go.Sx.Fresh w g w' [] (89 : Nat) → ∃ (x : Option Go.Addr), ∃ (x_1 :
 Nat), ∃ (x_2 : Nat), ∃ (w'_1 : Go.World), Go.Sx.RunsTo Go.Proofs.Try.prog (Go.Builtin.append_ (Array.mk [(61 : Nat), (61 : Nat)]) (61 : Nat) #[Go.Value.slice (Option.some (Go.Addr.mk g (0 : Nat)
 Option.none)) (0 : Nat) (0 : Nat), Go.Value.slice s_A s_n s_c]) w' (Go.Value.slice x x_1 x_2) w'_1 ∧ K (Go.Value.slice x x_1 x_2) w'_1
theorem slices_Clone_tree_node_tree_node.eq (s_A : Option Addr) (s_n : Nat) (s_c : Nat) (w : World) (K : Value → World → Prop) : slices_Clone_tree_node_tree_node.W s_A s_n s_c w K = fnW Try.prog Try.f62 (.named .auto) [.slice s_A s_n s_c] w K := by kernel_rfl
theorem slices_Clone_tree_node_tree_node.calls (ok : Okay Try.prog) {s_A : Option Addr} {s_n : Nat} {s_c : Nat} {w : World} {K : Value → World → Prop} (h : slices_Clone_tree_node_tree_node.W s_A s_n s_c w K) : CallsV Try.prog 62 #[.slice s_A s_n s_c] w K :=
  fnW_calls ok Try.func62 (an := (.named .auto)) (args := [.slice s_A s_n s_c]) (by rw [← slices_Clone_tree_node_tree_node.eq]; exact h)
noncomputable def slices_Clone_int_int.W : Option Addr → Nat → Nat → World → (Value → World → Prop) → Prop := fun (s_A : Option Go.Addr) (s_n s_c : Nat) (w : Go.World) (K : Go.Value → Go.World → Prop)
 => bif Option.isNone s_A then K (Go.Value.slice Option.none (0 : Nat) (0 : Nat)) w else ∀ (g : Nat) (w' : Go.World), Go.Sx.Fresh w g w' [] (3 : Nat) → ∃ (x : Option Go.Addr), ∃ (x_1 : Nat), ∃ (x_2 :
 Nat), ∃ (w'_1 : Go.World), Go.Sx.RunsTo Go.Proofs.Try.prog (Go.Builtin.append_ (Array.mk [(22 : Nat), (22 : Nat)]) (22 : Nat) #[Go.Value.slice (Option.some (Go.Addr.mk g (0 : Nat) Option.none)) (0 :
 Nat) (0 : Nat), Go.Value.slice s_A s_n s_c]) w' (Go.Value.slice x x_1 x_2) w'_1 ∧ K (Go.Value.slice x x_1 x_2) w'_1
theorem slices_Clone_int_int.eq (s_A : Option Addr) (s_n : Nat) (s_c : Nat) (w : World) (K : Value → World → Prop) : slices_Clone_int_int.W s_A s_n s_c w K = fnW Try.prog Try.f63 (.named .auto) [.slice s_A s_n s_c] w K := by kernel_rfl
theorem slices_Clone_int_int.calls (ok : Okay Try.prog) {s_A : Option Addr} {s_n : Nat} {s_c : Nat} {w : World} {K : Value → World → Prop} (h : slices_Clone_int_int.W s_A s_n s_c w K) : CallsV Try.prog 63 #[.slice s_A s_n s_c] w K :=
  fnW_calls ok Try.func63 (an := (.named .auto)) (args := [.slice s_A s_n s_c]) (by rw [← slices_Clone_int_int.eq]; exact h)
noncomputable def maps_Clone_map_int_int_int_int.W : Option Nat → World → (Value → World → Prop) → Prop := fun (m : Option Nat) (w : Go.World) (K : Go.Value → Go.World → Prop) => bif Option.isNone m
 then K (Go.Value.map Option.none) w else ∃ (x : Go.Value), ∃ (w' : Go.World), Go.Sx.RunsTo Go.Proofs.Try.prog (Go.callFunc (81 : Nat) #[Go.Value.iface (30 : Nat) (Go.Value.map m)]) w (Go.Next.value x)
 w' ∧ False
theorem maps_Clone_map_int_int_int_int.eq (m : Option Nat) (w : World) (K : Value → World → Prop) : maps_Clone_map_int_int_int_int.W m w K = fnW Try.prog Try.f64 (.named .auto) [.map m] w K := by kernel_rfl
theorem maps_Clone_map_int_int_int_int.calls (ok : Okay Try.prog) {m : Option Nat} {w : World} {K : Value → World → Prop} (h : maps_Clone_map_int_int_int_int.W m w K) : CallsV Try.prog 64 #[.map m] w K :=
  fnW_calls ok Try.func64 (an := (.named .auto)) (args := [.map m]) (by rw [← maps_Clone_map_int_int_int_int.eq]; exact h)
noncomputable def slices_Clone_byte_byte_2.W : Option Addr → Nat → Nat → World → (Value → World → Prop) → Prop := fun (s_A : Option Go.Addr) (s_n s_c : Nat) (w : Go.World) (K : Go.Value → Go.World →
 Prop) => bif Option.isNone s_A then K (Go.Value.slice Option.none (0 : Nat) (0 : Nat)) w else ∀ (g : Nat) (w' : Go.World), Go.Sx.Fresh w g w' [] (36 : Nat) → ∃ (x : Option Go.Addr), ∃ (x_1 : Nat), ∃
 (x_2 : Nat), ∃ (w'_1 : Go.World), Go.Sx.RunsTo Go.Proofs.Try.prog (Go.Builtin.append_ (Array.mk [(90 : Nat), (90 : Nat)]) (90 : Nat) #[Go.Value.slice (Option.some (Go.Addr.mk g (0 : Nat) Option.none))
 (0 : Nat) (0 : Nat), Go.Value.slice s_A s_n s_c]) w' (Go.Value.slice x x_1 x_2) w'_1 ∧ K (Go.Value.slice x x_1 x_2) w'_1
theorem slices_Clone_byte_byte_2.eq (s_A : Option Addr) (s_n : Nat) (s_c : Nat) (w : World) (K : Value → World → Prop) : slices_Clone_byte_byte_2.W s_A s_n s_c w K = fnW Try.prog Try.f73 (.named .auto) [.slice s_A s_n s_c] w K := by kernel_rfl
theorem slices_Clone_byte_byte_2.calls (ok : Okay Try.prog) {s_A : Option Addr} {s_n : Nat} {s_c : Nat} {w : World} {K : Value → World → Prop} (h : slices_Clone_byte_byte_2.W s_A s_n s_c w K) : CallsV Try.prog 73 #[.slice s_A s_n s_c] w K :=
  fnW_calls ok Try.func73 (an := (.named .auto)) (args := [.slice s_A s_n s_c]) (by rw [← slices_Clone_byte_byte_2.eq]; exact h)
noncomputable def slices_Insert_byte_byte.W : Option Addr → Nat → Nat → Int → Option Addr → Nat → Nat → World → (Value → World → Prop) → Prop := fun (s_A : Option Go.Addr) (s_n s_c : Nat) (i : Int)
 (v_A : Option Go.Addr) (v_n v_c : Nat) (w : Go.World) (K : Go.Value → Go.World → Prop) => ((0 : Int) ≤ i ∧ i ≤ (↑s_n : Int)) ∧ bif Decidable.decide ((↑v_n : Int) = (0 : Int)) then K (Go.Value.slice s_A
 s_n s_c) w else bif Decidable.decide (i = (↑s_n : Int)) then ∃ (x : Option Go.Addr), ∃ (x_1 : Nat), ∃ (x_2 : Nat), ∃ (w' : Go.World), Go.Sx.RunsTo Go.Proofs.Try.prog (Go.Builtin.append_ (Array.mk [(90
 : Nat), (90 : Nat)]) (90 : Nat) #[Go.Value.slice s_A s_n s_c, Go.Value.slice v_A v_n v_c]) w (Go.Value.slice x x_1 x_2) w' ∧ K (Go.Value.slice x x_1 x_2) w' else bif Decidable.decide ((↑s_c : Int) <
 Go.IntKind.wrap Go.IntKind.i64 ((↑s_n : Int) + (↑v_n : Int))) then ((0 : Int) ≤ i ∧ i ≤ (↑s_c : Int)) ∧ ∃ (x : Option Go.Addr), ∃ (x_1 : Nat), ∃ (x_2 : Nat), ∃ (w' : Go.World), Go.Sx.RunsTo
 Go.Proofs.Try.prog (Go.Builtin.append_ (Array.mk [(90 : Nat), (3 : Nat)]) (90 : Nat) #[Go.Value.slice (Go.Sx.cutAt s_A s_c (0 : Nat) (1 : Nat)) (Int.toNat i - (0 : Nat)) (s_c - (0 : Nat)), Go.Value.int
 Go.IntKind.i64 (Go.IntKind.wrap Go.IntKind.i64 (Go.IntKind.wrap Go.IntKind.i64 ((↑s_n : Int) + (↑v_n : Int)) - i))]) w (Go.Value.slice x x_1 x_2) w' ∧ ((0 : Int) ≤ i ∧ i ≤ (↑x_1 : Int)) ∧ ∃ (x_3 :
 Int), ∃ (w'_1 : Go.World), Go.Sx.RunsTo Go.Proofs.Try.prog (Go.Builtin.copy_ (Array.mk [(90 : Nat), (90 : Nat)]) (3 : Nat) #[Go.Value.slice (Go.Sx.cutAt x x_2 (Int.toNat i) (1 : Nat)) (x_1 - Int.toNat
 i) (x_2 - Int.toNat i), Go.Value.slice v_A v_n v_c]) w' (Go.Value.int Go.IntKind.i64 x_3) w'_1 ∧ ((0 : Int) ≤ Go.IntKind.wrap Go.IntKind.i64 (i + (↑v_n : Int)) ∧ Go.IntKind.wrap Go.IntKind.i64 (i +
 (↑v_n : Int)) ≤ (↑x_1 : Int)) ∧ ((0 : Int) ≤ i ∧ i ≤ (↑s_n : Int)) ∧ ∃ (x_4 : Int), ∃ (w' : Go.World), Go.Sx.RunsTo Go.Proofs.Try.prog (Go.Builtin.copy_ (Array.mk [(90 : Nat), (90 : Nat)]) (3 : Nat)
 #[Go.Value.slice (Go.Sx.cutAt x x_2 (Int.toNat (Go.IntKind.wrap Go.IntKind.i64 (i + (↑v_n : Int)))) (1 : Nat)) (x_1 - Int.toNat (Go.IntKind.wrap Go.IntKind.i64 (i + (↑v_n : Int)))) (x_2 - Int.toNat
 (Go.IntKind.wrap Go.IntKind.i64 (i + (↑v_n : Int)))), Go.Value.slice (Go.Sx.cutAt s_A s_c (Int.toNat i) (1 : Nat)) (s_n - Int.toNat i) (s_c - Int.toNat i)]) (Go.World.drew w'_1) (Go.Value.int
 Go.IntKind.i64 x_4) w' ∧ K (Go.Value.slice x x_1 x_2) w' else ((0 : Int) ≤ Go.IntKind.wrap Go.IntKind.i64 ((↑s_n : Int) + (↑v_n : Int)) ∧ Go.IntKind.wrap Go.IntKind.i64 ((↑s_n : Int) + (↑v_n : Int)) ≤
 (↑s_c : Int)) ∧ ((0 : Int) ≤ Go.IntKind.wrap Go.IntKind.i64 (i + (↑v_n : Int)) ∧ Go.IntKind.wrap Go.IntKind.i64 (i + (↑v_n : Int)) ≤ (↑(Int.toNat (Go.IntKind.wrap Go.IntKind.i64 ((↑s_n : Int) + (↑v_n :
 Int))) - (0 : Nat)) : Int)) ∧ ∃ (x : Bool), ∃ (w' : Go.World), Go.Sx.RunsTo Go.Proofs.Try.prog (Go.callFunc (82 : Nat) #[Go.Value.slice v_A v_n v_c, Go.Value.slice (Go.Sx.cutAt (Go.Sx.cutAt s_A s_c (0
 : Nat) (1 : Nat)) (s_c - (0 : Nat)) (Int.toNat (Go.IntKind.wrap Go.IntKind.i64 (i + (↑v_n : Int)))) (1 : Nat)) (Int.toNat (Go.IntKind.wrap Go.IntKind.i64 ((↑s_n : Int) + (↑v_n : Int))) - (0 : Nat) -
 Int.toNat (Go.IntKind.wrap Go.IntKind.i64 (i + (↑v_n : Int)))) (s_c - (0 : Nat) - Int.toNat (Go.IntKind.wrap Go.IntKind.i64 (i + (↑v_n : Int))))]) w (Go.Next.value (Go.Value.bool x)) w' ∧ bif !x then
 ((0 : Int) ≤ Go.IntKind.wrap Go.IntKind.i64 (i + (↑v_n : Int)) ∧ Go.IntKind.wrap Go.IntKind.i64 (i + (↑v_n : Int)) ≤ (↑(Int.toNat (Go.IntKind.wrap Go.IntKind.i64 ((↑s_n : Int) + (↑v_n : Int))) - (0 :
 Nat)) : Int)) ∧ ((0 : Int) ≤ i ∧ i ≤ (↑(Int.toNat (Go.IntKind.wrap Go.IntKind.i64 ((↑s_n : Int) + (↑v_n : Int))) - (0 : Nat)) : Int)) ∧ ∃ (x : Int), ∃ (w'_1 : Go.World), Go.Sx.RunsTo Go.Proofs.Try.prog
 (Go.Builtin.copy_ (Array.mk [(90 : Nat), (90 : Nat)]) (3 : Nat) #[Go.Value.slice (Go.Sx.cutAt (Go.Sx.cutAt s_A s_c (0 : Nat) (1 : Nat)) (s_c - (0 : Nat)) (Int.toNat (Go.IntKind.wrap Go.IntKind.i64 (i +
 (↑v_n : Int)))) (1 : Nat)) (Int.toNat (Go.IntKind.wrap Go.IntKind.i64 ((↑s_n : Int) + (↑v_n : Int))) - (0 : Nat) - Int.toNat (Go.IntKind.wrap Go.IntKind.i64 (i + (↑v_n : Int)))) (s_c - (0 : Nat) -
 Int.toNat (Go.IntKind.wrap Go.IntKind.i64 (i + (↑v_n : Int)))), Go.Value.slice (Go.Sx.cutAt (Go.Sx.cutAt s_A s_c (0 : Nat) (1 : Nat)) (s_c - (0 : Nat)) (Int.toNat i) (1 : Nat)) (Int.toNat
 (Go.IntKind.wrap Go.IntKind.i64 ((↑s_n : Int) + (↑v_n : Int))) - (0 : Nat) - Int.toNat i) (s_c - (0 : Nat) - Int.toNat i)]) (Go.World.drew w') (Go.Value.int Go.IntKind.i64 x) w'_1 ∧ ((0 : Int) ≤ i ∧ i
 ≤ (↑(Int.toNat (Go.IntKind.wrap Go.IntKind.i64 ((↑s_n : Int) + (↑v_n : Int))) - (0 : Nat)) : Int)) ∧ ∃ (x : Int), ∃ (w' : Go.World), Go.Sx.RunsTo Go.Proofs.Try.prog (Go.Builtin.copy_ (Array.mk [(90 :
 Nat), (90 : Nat)]) (3 : Nat) #[Go.Value.slice (Go.Sx.cutAt (Go.Sx.cutAt s_A s_c (0 : Nat) (1 : Nat)) (s_c - (0 : Nat)) (Int.toNat i) (1 : Nat)) (Int.toNat (Go.IntKind.wrap Go.IntKind.i64 ((↑s_n : Int)
 + (↑v_n : Int))) - (0 : Nat) - Int.toNat i) (s_c - (0 : Nat) - Int.toNat i), Go.Value.slice v_A v_n v_c]) w'_1 (Go.Value.int Go.IntKind.i64 x) w' ∧ K (Go.Value.slice (Go.Sx.cutAt s_A s_c (0 : Nat) (1 :
 Nat)) (Int.toNat (Go.IntKind.wrap Go.IntKind.i64 ((↑s_n : Int) + (↑v_n : Int))) - (0 : Nat)) (s_c - (0 : Nat))) w' else ((0 : Int) ≤ (↑s_n : Int) ∧ (↑s_n : Int) ≤ (↑(Int.toNat (Go.IntKind.wrap
 Go.IntKind.i64 ((↑s_n : Int) + (↑v_n : Int))) - (0 : Nat)) : Int)) ∧ ∃ (x : Int), ∃ (w'_1 : Go.World), Go.Sx.RunsTo Go.Proofs.Try.prog (Go.Builtin.copy_ (Array.mk [(90 : Nat), (90 : Nat)]) (3 : Nat)
 #[Go.Value.slice (Go.Sx.cutAt (Go.Sx.cutAt s_A s_c (0 : Nat) (1 : Nat)) (s_c - (0 : Nat)) (Int.toNat (↑s_n : Int)) (1 : Nat)) (Int.toNat (Go.IntKind.wrap Go.IntKind.i64 ((↑s_n : Int) + (↑v_n : Int))) -
 (0 : Nat) - Int.toNat (↑s_n : Int)) (s_c - (0 : Nat) - Int.toNat (↑s_n : Int)), Go.Value.slice v_A v_n v_c]) w' (Go.Value.int Go.IntKind.i64 x) w'_1 ∧ ((0 : Int) ≤ i ∧ i ≤ (↑(Int.toNat (Go.IntKind.wrap
 Go.IntKind.i64 ((↑s_n : Int) + (↑v_n : Int))) - (0 : Nat)) : Int)) ∧ Go.Sx.CallsV Go.Proofs.Try.prog (83 : Nat) #[Go.Value.slice (Go.Sx.cutAt (Go.Sx.cutAt s_A s_c (0 : Nat) (1 : Nat)) (s_c - (0 : Nat))
 (Int.toNat i) (1 : Nat)) (Int.toNat (Go.IntKind.wrap Go.IntKind.i64 ((↑s_n : Int) + (↑v_n : Int))) - (0 : Nat) - Int.toNat i) (s_c - (0 : Nat) - Int.toNat i), Go.Value.int Go.IntKind.i64 (↑v_n : Int)]
 w'_1 fun (v : Go.Value) (w' : Go.World) => v = Go.Value.tuple #[] ∧ K (Go.Value.slice (Go.Sx.cutAt s_A s_c (0 : Nat) (1 : Nat)) (Int.toNat (Go.IntKind.wrap Go.IntKind.i64 ((↑s_n : Int) + (↑v_n : Int)))
 - (0 : Nat)) (s_c - (0 : Nat))) w'
theorem slices_Insert_byte_byte.eq (s_A : Option Addr) (s_n : Nat) (s_c : Nat) (i : Int) (v_A : Option Addr) (v_n : Nat) (v_c : Nat) (w : World) (K : Value → World → Prop) : slices_Insert_byte_byte.W s_A s_n s_c i v_A v_n v_c w K = fnW Try.prog Try.f74 (.named .auto) [.slice s_A s_n s_c, .int .i64 i, .slice v_A v_n v_c] w K := by kernel_rfl
theorem slices_Insert_byte_byte.calls (ok : Okay Try.prog) {s_A : Option Addr} {s_n : Nat} {s_c : Nat} {i : Int} {v_A : Option Addr} {v_n : Nat} {v_c : Nat} {w : World} {K : Value → World → Prop} (h : slices_Insert_byte_byte.W s_A s_n s_c i v_A v_n v_c w K) : CallsV Try.prog 74 #[.slice s_A s_n s_c, .int .i64 i, .slice v_A v_n v_c] w K :=
  fnW_calls ok Try.func74 (an := (.named .auto)) (args := [.slice s_A s_n s_c, .int .i64 i, .slice v_A v_n v_c]) (by rw [← slices_Insert_byte_byte.eq]; exact h)
noncomputable def slices_Insert_int_int.W : Option Addr → Nat → Nat → Int → Option Addr → Nat → Nat → World → (Value → World → Prop) → Prop := fun (s_A : Option Go.Addr) (s_n s_c : Nat) (i : Int) (v_A
 : Option Go.Addr) (v_n v_c : Nat) (w : Go.World) (K : Go.Value → Go.World → Prop) => ((0 : Int) ≤ i ∧ i ≤ (↑s_n : Int)) ∧ bif Decidable.decide ((↑v_n : Int) = (0 : Int)) then K (Go.Value.slice s_A s_n
 s_c) w else bif Decidable.decide (i = (↑s_n : Int)) then ∃ (x : Option Go.Addr), ∃ (x_1 : Nat), ∃ (x_2 : Nat), ∃ (w' : Go.World), Go.Sx.RunsTo Go.Proofs.Try.prog (Go.Builtin.append_ (Array.mk [(22 :
 Nat), (22 : Nat)]) (22 : Nat) #[Go.Value.slice s_A s_n s_c, Go.Value.slice v_A v_n v_c]) w (Go.Value.slice x x_1 x_2) w' ∧ K (Go.Value.slice x x_1 x_2) w' else bif Decidable.decide ((↑s_c : Int) <
 Go.IntKind.wrap Go.IntKind.i64 ((↑s_n : Int) + (↑v_n : Int))) then ((0 : Int) ≤ i ∧ i ≤ (↑s_c : Int)) ∧ ∃ (x : Option Go.Addr), ∃ (x_1 : Nat), ∃ (x_2 : Nat), ∃ (w' : Go.World), Go.Sx.RunsTo
 Go.Proofs.Try.prog (Go.Builtin.append_ (Array.mk [(22 : Nat), (3 : Nat)]) (22 : Nat) #[Go.Value.slice (Go.Sx.cutAt s_A s_c (0 : Nat) (1 : Nat)) (Int.toNat i - (0 : Nat)) (s_c - (0 : Nat)), Go.Value.int
 Go.IntKind.i64 (Go.IntKind.wrap Go.IntKind.i64 (Go.IntKind.wrap Go.IntKind.i64 ((↑s_n : Int) + (↑v_n : Int)) - i))]) w (Go.Value.slice x x_1 x_2) w' ∧ ((0 : Int) ≤ i ∧ i ≤ (↑x_1 : Int)) ∧ ∃ (x_3 :
 Int), ∃ (w'_1 : Go.World), Go.Sx.RunsTo Go.Proofs.Try.prog (Go.Builtin.copy_ (Array.mk [(22 : Nat), (22 : Nat)]) (3 : Nat) #[Go.Value.slice (Go.Sx.cutAt x x_2 (Int.toNat i) (1 : Nat)) (x_1 - Int.toNat
 i) (x_2 - Int.toNat i), Go.Value.slice v_A v_n v_c]) w' (Go.Value.int Go.IntKind.i64 x_3) w'_1 ∧ ((0 : Int) ≤ Go.IntKind.wrap Go.IntKind.i64 (i + (↑v_n : Int)) ∧ Go.IntKind.wrap Go.IntKind.i64 (i +
 (↑v_n : Int)) ≤ (↑x_1 : Int)) ∧ ((0 : Int) ≤ i ∧ i ≤ (↑s_n : Int)) ∧ ∃ (x_4 : Int), ∃ (w' : Go.World), Go.Sx.RunsTo Go.Proofs.Try.prog (Go.Builtin.copy_ (Array.mk [(22 : Nat), (22 : Nat)]) (3 : Nat)
 #[Go.Value.slice (Go.Sx.cutAt x x_2 (Int.toNat (Go.IntKind.wrap Go.IntKind.i64 (i + (↑v_n : Int)))) (1 : Nat)) (x_1 - Int.toNat (Go.IntKind.wrap Go.IntKind.i64 (i + (↑v_n : Int)))) (x_2 - Int.toNat
 (Go.IntKind.wrap Go.IntKind.i64 (i + (↑v_n : Int)))), Go.Value.slice (Go.Sx.cutAt s_A s_c (Int.toNat i) (1 : Nat)) (s_n - Int.toNat i) (s_c - Int.toNat i)]) (Go.World.drew w'_1) (Go.Value.int
 Go.IntKind.i64 x_4) w' ∧ K (Go.Value.slice x x_1 x_2) w' else ((0 : Int) ≤ Go.IntKind.wrap Go.IntKind.i64 ((↑s_n : Int) + (↑v_n : Int)) ∧ Go.IntKind.wrap Go.IntKind.i64 ((↑s_n : Int) + (↑v_n : Int)) ≤
 (↑s_c : Int)) ∧ ((0 : Int) ≤ Go.IntKind.wrap Go.IntKind.i64 (i + (↑v_n : Int)) ∧ Go.IntKind.wrap Go.IntKind.i64 (i + (↑v_n : Int)) ≤ (↑(Int.toNat (Go.IntKind.wrap Go.IntKind.i64 ((↑s_n : Int) + (↑v_n :
 Int))) - (0 : Nat)) : Int)) ∧ ∃ (x : Bool), ∃ (w' : Go.World), Go.Sx.RunsTo Go.Proofs.Try.prog (Go.callFunc (84 : Nat) #[Go.Value.slice v_A v_n v_c, Go.Value.slice (Go.Sx.cutAt (Go.Sx.cutAt s_A s_c (0
 : Nat) (1 : Nat)) (s_c - (0 : Nat)) (Int.toNat (Go.IntKind.wrap Go.IntKind.i64 (i + (↑v_n : Int)))) (1 : Nat)) (Int.toNat (Go.IntKind.wrap Go.IntKind.i64 ((↑s_n : Int) + (↑v_n : Int))) - (0 : Nat) -
 Int.toNat (Go.IntKind.wrap Go.IntKind.i64 (i + (↑v_n : Int)))) (s_c - (0 : Nat) - Int.toNat (Go.IntKind.wrap Go.IntKind.i64 (i + (↑v_n : Int))))]) w (Go.Next.value (Go.Value.bool x)) w' ∧ bif !x then
 ((0 : Int) ≤ Go.IntKind.wrap Go.IntKind.i64 (i + (↑v_n : Int)) ∧ Go.IntKind.wrap Go.IntKind.i64 (i + (↑v_n : Int)) ≤ (↑(Int.toNat (Go.IntKind.wrap Go.IntKind.i64 ((↑s_n : Int) + (↑v_n : Int))) - (0 :
 Nat)) : Int)) ∧ ((0 : Int) ≤ i ∧ i ≤ (↑(Int.toNat (Go.IntKind.wrap Go.IntKind.i64 ((↑s_n : Int) + (↑v_n : Int))) - (0 : Nat)) : Int)) ∧ ∃ (x : Int), ∃ (w'_1 : Go.World), Go.Sx.RunsTo Go.Proofs.Try.prog
 (Go.Builtin.copy_ (Array.mk [(22 : Nat), (22 : Nat)]) (3 : Nat) #[Go.Value.slice (Go.Sx.cutAt (Go.Sx.cutAt s_A s_c (0 : Nat) (1 : Nat)) (s_c - (0 : Nat)) (Int.toNat (Go.IntKind.wrap Go.IntKind.i64 (i +
 (↑v_n : Int)))) (1 : Nat)) (Int.toNat (Go.IntKind.wrap Go.IntKind.i64 ((↑s_n : Int) + (↑v_n : Int))) - (0 : Nat) - Int.toNat (Go.IntKind.wrap Go.IntKind.i64 (i + (↑v_n : Int)))) (s_c - (0 : Nat) -
 Int.toNat (Go.IntKind.wrap Go.IntKind.i64 (i + (↑v_n : Int)))), Go.Value.slice (Go.Sx.cutAt (Go.Sx.cutAt s_A s_c (0 : Nat) (1 : Nat)) (s_c - (0 : Nat)) (Int.toNat i) (1 : Nat)) (Int.toNat
 (Go.IntKind.wrap Go.IntKind.i64 ((↑s_n : Int) + (↑v_n : Int))) - (0 : Nat) - Int.toNat i) (s_c - (0 : Nat) - Int.toNat i)]) (Go.World.drew w') (Go.Value.int Go.IntKind.i64 x) w'_1 ∧ ((0 : Int) ≤ i ∧ i
 ≤ (↑(Int.toNat (Go.IntKind.wrap Go.IntKind.i64 ((↑s_n : Int) + (↑v_n : Int))) - (0 : Nat)) : Int)) ∧ ∃ (x : Int), ∃ (w' : Go.World), Go.Sx.RunsTo Go.Proofs.Try.prog (Go.Builtin.copy_ (Array.mk [(22 :
 Nat), (22 : Nat)]) (3 : Nat) #[Go.Value.slice (Go.Sx.cutAt (Go.Sx.cutAt s_A s_c (0 : Nat) (1 : Nat)) (s_c - (0 : Nat)) (Int.toNat i) (1 : Nat)) (Int.toNat (Go.IntKind.wrap Go.IntKind.i64 ((↑s_n : Int)
 + (↑v_n : Int))) - (0 : Nat) - Int.toNat i) (s_c - (0 : Nat) - Int.toNat i), Go.Value.slice v_A v_n v_c]) w'_1 (Go.Value.int Go.IntKind.i64 x) w' ∧ K (Go.Value.slice (Go.Sx.cutAt s_A s_c (0 : Nat) (1 :
 Nat)) (Int.toNat (Go.IntKind.wrap Go.IntKind.i64 ((↑s_n : Int) + (↑v_n : Int))) - (0 : Nat)) (s_c - (0 : Nat))) w' else ((0 : Int) ≤ (↑s_n : Int) ∧ (↑s_n : Int) ≤ (↑(Int.toNat (Go.IntKind.wrap
 Go.IntKind.i64 ((↑s_n : Int) + (↑v_n : Int))) - (0 : Nat)) : Int)) ∧ ∃ (x : Int), ∃ (w'_1 : Go.World), Go.Sx.RunsTo Go.Proofs.Try.prog (Go.Builtin.copy_ (Array.mk [(22 : Nat), (22 : Nat)]) (3 : Nat)
 #[Go.Value.slice (Go.Sx.cutAt (Go.Sx.cutAt s_A s_c (0 : Nat) (1 : Nat)) (s_c - (0 : Nat)) (Int.toNat (↑s_n : Int)) (1 : Nat)) (Int.toNat (Go.IntKind.wrap Go.IntKind.i64 ((↑s_n : Int) + (↑v_n : Int))) -
 (0 : Nat) - Int.toNat (↑s_n : Int)) (s_c - (0 : Nat) - Int.toNat (↑s_n : Int)), Go.Value.slice v_A v_n v_c]) w' (Go.Value.int Go.IntKind.i64 x) w'_1 ∧ ((0 : Int) ≤ i ∧ i ≤ (↑(Int.toNat (Go.IntKind.wrap
 Go.IntKind.i64 ((↑s_n : Int) + (↑v_n : Int))) - (0 : Nat)) : Int)) ∧ Go.Sx.CallsV Go.Proofs.Try.prog (85 : Nat) #[Go.Value.slice (Go.Sx.cutAt (Go.Sx.cutAt s_A s_c (0 : Nat) (1 : Nat)) (s_c - (0 : Nat))
 (Int.toNat i) (1 : Nat)) (Int.toNat (Go.IntKind.wrap Go.IntKind.i64 ((↑s_n : Int) + (↑v_n : Int))) - (0 : Nat) - Int.toNat i) (s_c - (0 : Nat) - Int.toNat i), Go.Value.int Go.IntKind.i64 (↑v_n : Int)]
 w'_1 fun (v : Go.Value) (w' : Go.World) => v = Go.Value.tuple #[] ∧ K (Go.Value.slice (Go.Sx.cutAt s_A s_c (0 : Nat) (1 : Nat)) (Int.toNat (Go.IntKind.wrap Go.IntKind.i64 ((↑s_n : Int) + (↑v_n : Int)))
 - (0 : Nat)) (s_c - (0 : Nat))) w'
theorem slices_Insert_int_int.eq (s_A : Option Addr) (s_n : Nat) (s_c : Nat) (i : Int) (v_A : Option Addr) (v_n : Nat) (v_c : Nat) (w : World) (K : Value → World → Prop) : slices_Insert_int_int.W s_A s_n s_c i v_A v_n v_c w K = fnW Try.prog Try.f76 (.named .auto) [.slice s_A s_n s_c, .int .i64 i, .slice v_A v_n v_c] w K := by kernel_rfl
theorem slices_Insert_int_int.calls (ok : Okay Try.prog) {s_A : Option Addr} {s_n : Nat} {s_c : Nat} {i : Int} {v_A : Option Addr} {v_n : Nat} {v_c : Nat} {w : World} {K : Value → World → Prop} (h : slices_Insert_int_int.W s_A s_n s_c i v_A v_n v_c w K) : CallsV Try.prog 76 #[.slice s_A s_n s_c, .int .i64 i, .slice v_A v_n v_c] w K :=
  fnW_calls ok Try.func76 (an := (.named .auto)) (args := [.slice s_A s_n s_c, .int .i64 i, .slice v_A v_n v_c]) (by rw [← slices_Insert_int_int.eq]; exact h)
noncomputable def slices_Delete_byte_byte.W : Option Addr → Nat → Nat → Int → Int → World → (Value → World → Prop) → Prop := fun (s_A : Option Go.Addr) (s_n s_c : Nat) (i j : Int) (w : Go.World) (K :
 Go.Value → Go.World → Prop) => ((0 : Int) ≤ (↑s_n : Int) ∧ (↑s_n : Int) ≤ (↑s_c : Int)) ∧ ((0 : Int) ≤ j ∧ j ≤ (↑(Int.toNat (↑s_n : Int)) : Int)) ∧ ((0 : Int) ≤ i ∧ i ≤ (↑(Int.toNat j) : Int)) ∧ bif
 Decidable.decide (i = j) then K (Go.Value.slice s_A s_n s_c) w else ((0 : Int) ≤ i ∧ i ≤ (↑s_c : Int)) ∧ ((0 : Int) ≤ j ∧ j ≤ (↑s_n : Int)) ∧ ∃ (x : Option Go.Addr), ∃ (x_1 : Nat), ∃ (x_2 : Nat), ∃ (w'
 : Go.World), Go.Sx.RunsTo Go.Proofs.Try.prog (Go.Builtin.append_ (Array.mk [(90 : Nat), (90 : Nat)]) (90 : Nat) #[Go.Value.slice (Go.Sx.cutAt s_A s_c (0 : Nat) (1 : Nat)) (Int.toNat i - (0 : Nat)) (s_c
 - (0 : Nat)), Go.Value.slice (Go.Sx.cutAt s_A s_c (Int.toNat j) (1 : Nat)) (s_n - Int.toNat j) (s_c - Int.toNat j)]) (Go.World.drew w) (Go.Value.slice x x_1 x_2) w' ∧ ((0 : Int) ≤ (↑s_n : Int) ∧ (↑s_n
 : Int) ≤ (↑x_2 : Int)) ∧ ((0 : Int) ≤ (↑x_1 : Int) ∧ (↑x_1 : Int) ≤ (↑(Int.toNat (↑s_n : Int)) : Int)) ∧ ∃ (w'_1 : Go.World), Go.Sx.RunsTo Go.Proofs.Try.prog (Go.Builtin.clear_ (Array.mk [(90 : Nat)])
 (0 : Nat) #[Go.Value.slice (Go.Sx.cutAt x x_2 (Int.toNat (↑x_1 : Int)) (1 : Nat)) (Int.toNat (↑s_n : Int) - Int.toNat (↑x_1 : Int)) (x_2 - Int.toNat (↑x_1 : Int))]) w' (Go.Value.tuple #[]) w'_1 ∧ K
 (Go.Value.slice x x_1 x_2) w'_1
theorem slices_Delete_byte_byte.eq (s_A : Option Addr) (s_n : Nat) (s_c : Nat) (i : Int) (j : Int) (w : World) (K : Value → World → Prop) : slices_Delete_byte_byte.W s_A s_n s_c i j w K = fnW Try.prog Try.f78 (.named .auto) [.slice s_A s_n s_c, .int .i64 i, .int .i64 j] w K := by kernel_rfl
theorem slices_Delete_byte_byte.calls (ok : Okay Try.prog) {s_A : Option Addr} {s_n : Nat} {s_c : Nat} {i : Int} {j : Int} {w : World} {K : Value → World → Prop} (h : slices_Delete_byte_byte.W s_A s_n s_c i j w K) : CallsV Try.prog 78 #[.slice s_A s_n s_c, .int .i64 i, .int .i64 j] w K :=
  fnW_calls ok Try.func78 (an := (.named .auto)) (args := [.slice s_A s_n s_c, .int .i64 i, .int .i64 j]) (by rw [← slices_Delete_byte_byte.eq]; exact h)
noncomputable def slices_Delete_int_int.W : Option Addr → Nat → Nat → Int → Int → World → (Value → World → Prop) → Prop := fun (s_A : Option Go.Addr) (s_n s_c : Nat) (i j : Int) (w : Go.World) (K :
 Go.Value → Go.World → Prop) => ((0 : Int) ≤ (↑s_n : Int) ∧ (↑s_n : Int) ≤ (↑s_c : Int)) ∧ ((0 : Int) ≤ j ∧ j ≤ (↑(Int.toNat (↑s_n : Int)) : Int)) ∧ ((0 : Int) ≤ i ∧ i ≤ (↑(Int.toNat j) : Int)) ∧ bif
 Decidable.decide (i = j) then K (Go.Value.slice s_A s_n s_c) w else ((0 : Int) ≤ i ∧ i ≤ (↑s_c : Int)) ∧ ((0 : Int) ≤ j ∧ j ≤ (↑s_n : Int)) ∧ ∃ (x : Option Go.Addr), ∃ (x_1 : Nat), ∃ (x_2 : Nat), ∃ (w'
 : Go.World), Go.Sx.RunsTo Go.Proofs.Try.prog (Go.Builtin.append_ (Array.mk [(22 : Nat), (22 : Nat)]) (22 : Nat) #[Go.Value.slice (Go.Sx.cutAt s_A s_c (0 : Nat) (1 : Nat)) (Int.toNat i - (0 : Nat)) (s_c
 - (0 : Nat)), Go.Value.slice (Go.Sx.cutAt s_A s_c (Int.toNat j) (1 : Nat)) (s_n - Int.toNat j) (s_c - Int.toNat j)]) (Go.World.drew w) (Go.Value.slice x x_1 x_2) w' ∧ ((0 : Int) ≤ (↑s_n : Int) ∧ (↑s_n
 : Int) ≤ (↑x_2 : Int)) ∧ ((0 : Int) ≤ (↑x_1 : Int) ∧ (↑x_1 : Int) ≤ (↑(Int.toNat (↑s_n : Int)) : Int)) ∧ ∃ (w'_1 : Go.World), Go.Sx.RunsTo Go.Proofs.Try.prog (Go.Builtin.clear_ (Array.mk [(22 : Nat)])
 (0 : Nat) #[Go.Value.slice (Go.Sx.cutAt x x_2 (Int.toNat (↑x_1 : Int)) (1 : Nat)) (Int.toNat (↑s_n : Int) - Int.toNat (↑x_1 : Int)) (x_2 - Int.toNat (↑x_1 : Int))]) w' (Go.Value.tuple #[]) w'_1 ∧ K
 (Go.Value.slice x x_1 x_2) w'_1
theorem slices_Delete_int_int.eq (s_A : Option Addr) (s_n : Nat) (s_c : Nat) (i : Int) (j : Int) (w : World) (K : Value → World → Prop) : slices_Delete_int_int.W s_A s_n s_c i j w K = fnW Try.prog Try.f88 (.named .auto) [.slice s_A s_n s_c, .int .i64 i, .int .i64 j] w K := by kernel_rfl
theorem slices_Delete_int_int.calls (ok : Okay Try.prog) {s_A : Option Addr} {s_n : Nat} {s_c : Nat} {i : Int} {j : Int} {w : World} {K : Value → World → Prop} (h : slices_Delete_int_int.W s_A s_n s_c i j w K) : CallsV Try.prog 88 #[.slice s_A s_n s_c, .int .i64 i, .int .i64 j] w K :=
  fnW_calls ok Try.func88 (an := (.named .auto)) (args := [.slice s_A s_n s_c, .int .i64 i, .int .i64 j]) (by rw [← slices_Delete_int_int.eq]; exact h)
noncomputable def slices_Concat_byte_byte.W : Option Addr → Nat → Nat → World → (Value → World → Prop) → Prop := fun (slices_A : Option Go.Addr) (slices_n slices_c : Nat) (w : Go.World) (K : Go.Value →
 Go.World → Prop) => ∃ (I : Int → Int → Go.World → Prop), ∃ (μ : Int → Int → Go.World → Nat), I (0 : Int) (0 : Int) w ∧ ∀ (x x_1 : Int) (w : Go.World), I x x_1 w → bif Decidable.decide (x_1 < (↑slices_n
 : Int)) then ∃ (ad : Go.Addr), slices_A = Option.some ad ∧ ((0 : Int) ≤ x_1 ∧ x_1 < (↑slices_n : Int)) ∧ ∃ (x_2 : Option Go.Addr), ∃ (x_3 : Nat), ∃ (x_4 : Nat), Go.World.cell? w (Go.Addr.add ad
 (Int.toNat x_1 * (1 : Nat))) = Option.some (Go.Value.slice x_2 x_3 x_4) ∧ bif Decidable.decide (Go.IntKind.wrap Go.IntKind.i64 (x + (↑x_3 : Int)) < (0 : Int)) then False else I (Go.IntKind.wrap
 Go.IntKind.i64 (x + (↑x_3 : Int))) (Go.IntKind.wrap Go.IntKind.i64 (x_1 + (1 : Int))) w ∧ μ (Go.IntKind.wrap Go.IntKind.i64 (x + (↑x_3 : Int))) (Go.IntKind.wrap Go.IntKind.i64 (x_1 + (1 : Int))) w < μ
 x x_1 w else Go.Sx.CallsV Go.Proofs.Try.prog (91 : Nat) #[Go.Value.slice Option.none (0 : Nat) (0 : Nat), Go.Value.int Go.IntKind.i64 x] w fun (v : Go.Value) (w' : Go.World) => ∃ (x : Option Go.Addr),
 ∃ (x_2 : Nat), ∃ (x_3 : Nat), v = Go.Value.slice x x_2 x_3 ∧ ∃ (I : Option Go.Addr → Nat → Nat → Int → Go.World → Prop), ∃ (μ : Option Go.Addr → Nat → Nat → Int → Go.World → Nat), I x x_2 x_3 (0 : Int)
 w' ∧ ∀ (x : Option Go.Addr) (x_4 x_5 : Nat) (x_6 : Int) (w : Go.World), I x x_4 x_5 x_6 w → bif Decidable.decide (x_6 < (↑slices_n : Int)) then ∃ (ad : Go.Addr), slices_A = Option.some ad ∧ ((0 : Int)
 ≤ x_6 ∧ x_6 < (↑slices_n : Int)) ∧ ∃ (x_7 : Option Go.Addr), ∃ (x_8 : Nat), ∃ (x_9 : Nat), Go.World.cell? w (Go.Addr.add ad (Int.toNat x_6 * (1 : Nat))) = Option.some (Go.Value.slice x_7 x_8 x_9) ∧ ∃
 (x_10 : Option Go.Addr), ∃ (x_11 : Nat), ∃ (x_12 : Nat), ∃ (w' : Go.World), Go.Sx.RunsTo Go.Proofs.Try.prog (Go.Builtin.append_ (Array.mk [(90 : Nat), (90 : Nat)]) (90 : Nat) #[Go.Value.slice x x_4
 x_5, Go.Value.slice x_7 x_8 x_9]) w (Go.Value.slice x_10 x_11 x_12) w' ∧ I x_10 x_11 x_12 (Go.IntKind.wrap Go.IntKind.i64 (x_6 + (1 : Int))) w' ∧ μ x_10 x_11 x_12 (Go.IntKind.wrap Go.IntKind.i64 (x_6 +
 (1 : Int))) w' < μ x x_4 x_5 x_6 w else K (Go.Value.slice x x_4 x_5) w
theorem slices_Concat_byte_byte.eq (slices_A : Option Addr) (slices_n : Nat) (slices_c : Nat) (w : World) (K : Value → World → Prop) : slices_Concat_byte_byte.W slices_A slices_n slices_c w K = fnW Try.prog Try.f86 (.named (.seq .auto (.seq .auto (.seq (.seq .auto (.block (.loop [(3, .one (.int .i64)), (11, .one (.int .i64))] .auto))) (.seq .auto (.seq (.seq .auto (.block (.loop [(6, .one .slc), (27, .one (.int .i64))] .auto))) .auto)))))) [.slice slices_A slices_n slices_c] w K := by kernel_rfl
theorem slices_Concat_byte_byte.calls (ok : Okay Try.prog) {slices_A : Option Addr} {slices_n : Nat} {slices_c : Nat} {w : World} {K : Value → World → Prop} (h : slices_Concat_byte_byte.W slices_A slices_n slices_c w K) : CallsV Try.prog 86 #[.slice slices_A slices_n slices_c] w K :=
  fnW_calls ok Try.func86 (an := (.named (.seq .auto (.seq .auto (.seq (.seq .auto (.block (.loop [(3, .one (.int .i64)), (11, .one (.int .i64))] .auto))) (.seq .auto (.seq (.seq .auto (.block (.loop [(6, .one .slc), (27, .one (.int .i64))] .auto))) .auto))))))) (args := [.slice slices_A slices_n slices_c]) (by rw [← slices_Concat_byte_byte.eq]; exact h)
noncomputable def slices_Concat_int_int.W : Option Addr → Nat → Nat → World → (Value → World → Prop) → Prop := fun (slices_A : Option Go.Addr) (slices_n slices_c : Nat) (w : Go.World) (K : Go.Value →
 Go.World → Prop) => ∃ (I : Int → Int → Go.World → Prop), ∃ (μ : Int → Int → Go.World → Nat), I (0 : Int) (0 : Int) w ∧ ∀ (x x_1 : Int) (w : Go.World), I x x_1 w → bif Decidable.decide (x_1 < (↑slices_n
 : Int)) then ∃ (ad : Go.Addr), slices_A = Option.some ad ∧ ((0 : Int) ≤ x_1 ∧ x_1 < (↑slices_n : Int)) ∧ ∃ (x_2 : Option Go.Addr), ∃ (x_3 : Nat), ∃ (x_4 : Nat), Go.World.cell? w (Go.Addr.add ad
 (Int.toNat x_1 * (1 : Nat))) = Option.some (Go.Value.slice x_2 x_3 x_4) ∧ bif Decidable.decide (Go.IntKind.wrap Go.IntKind.i64 (x + (↑x_3 : Int)) < (0 : Int)) then False else I (Go.IntKind.wrap
 Go.IntKind.i64 (x + (↑x_3 : Int))) (Go.IntKind.wrap Go.IntKind.i64 (x_1 + (1 : Int))) w ∧ μ (Go.IntKind.wrap Go.IntKind.i64 (x + (↑x_3 : Int))) (Go.IntKind.wrap Go.IntKind.i64 (x_1 + (1 : Int))) w < μ
 x x_1 w else Go.Sx.CallsV Go.Proofs.Try.prog (92 : Nat) #[Go.Value.slice Option.none (0 : Nat) (0 : Nat), Go.Value.int Go.IntKind.i64 x] w fun (v : Go.Value) (w' : Go.World) => ∃ (x : Option Go.Addr),
 ∃ (x_2 : Nat), ∃ (x_3 : Nat), v = Go.Value.slice x x_2 x_3 ∧ ∃ (I : Option Go.Addr → Nat → Nat → Int → Go.World → Prop), ∃ (μ : Option Go.Addr → Nat → Nat → Int → Go.World → Nat), I x x_2 x_3 (0 : Int)
 w' ∧ ∀ (x : Option Go.Addr) (x_4 x_5 : Nat) (x_6 : Int) (w : Go.World), I x x_4 x_5 x_6 w → bif Decidable.decide (x_6 < (↑slices_n : Int)) then ∃ (ad : Go.Addr), slices_A = Option.some ad ∧ ((0 : Int)
 ≤ x_6 ∧ x_6 < (↑slices_n : Int)) ∧ ∃ (x_7 : Option Go.Addr), ∃ (x_8 : Nat), ∃ (x_9 : Nat), Go.World.cell? w (Go.Addr.add ad (Int.toNat x_6 * (1 : Nat))) = Option.some (Go.Value.slice x_7 x_8 x_9) ∧ ∃
 (x_10 : Option Go.Addr), ∃ (x_11 : Nat), ∃ (x_12 : Nat), ∃ (w' : Go.World), Go.Sx.RunsTo Go.Proofs.Try.prog (Go.Builtin.append_ (Array.mk [(22 : Nat), (22 : Nat)]) (22 : Nat) #[Go.Value.slice x x_4
 x_5, Go.Value.slice x_7 x_8 x_9]) w (Go.Value.slice x_10 x_11 x_12) w' ∧ I x_10 x_11 x_12 (Go.IntKind.wrap Go.IntKind.i64 (x_6 + (1 : Int))) w' ∧ μ x_10 x_11 x_12 (Go.IntKind.wrap Go.IntKind.i64 (x_6 +
 (1 : Int))) w' < μ x x_4 x_5 x_6 w else K (Go.Value.slice x x_4 x_5) w
theorem slices_Concat_int_int.eq (slices_A : Option Addr) (slices_n : Nat) (slices_c : Nat) (w : World) (K : Value → World → Prop) : slices_Concat_int_int.W slices_A slices_n slices_c w K = fnW Try.prog Try.f87 (.named (.seq .auto (.seq .auto (.seq (.seq .auto (.block (.loop [(3, .one (.int .i64)), (11, .one (.int .i64))] .auto))) (.seq .auto (.seq (.seq .auto (.block (.loop [(6, .one .slc), (27, .one (.int .i64))] .auto))) .auto)))))) [.slice slices_A slices_n slices_c] w K := by kernel_rfl
theorem slices_Concat_int_int.calls (ok : Okay Try.prog) {slices_A : Option Addr} {slices_n : Nat} {slices_c : Nat} {w : World} {K : Value → World → Prop} (h : slices_Concat_int_int.W slices_A slices_n slices_c w K) : CallsV Try.prog 87 #[.slice slices_A slices_n slices_c] w K :=
  fnW_calls ok Try.func87 (an := (.named (.seq .auto (.seq .auto (.seq (.seq .auto (.block (.loop [(3, .one (.int .i64)), (11, .one (.int .i64))] .auto))) (.seq .auto (.seq (.seq .auto (.block (.loop [(6, .one .slc), (27, .one (.int .i64))] .auto))) .auto))))))) (args := [.slice slices_A slices_n slices_c]) (by rw [← slices_Concat_int_int.eq]; exact h)
noncomputable def slices_Grow_byte_byte.W : Option Addr → Nat → Nat → Int → World → (Value → World → Prop) → Prop := fun (s_A : Option Go.Addr) (s_n s_c : Nat) (n : Int) (w : Go.World) (K : Go.Value →
 Go.World → Prop) => ∃ (J : Go.World → Prop), (∀ (w : Go.World), J w → bif Decidable.decide ((0 : Int) < Go.IntKind.wrap Go.IntKind.i64 (n - Go.IntKind.wrap Go.IntKind.i64 ((↑s_c : Int) - (↑s_n :
 Int)))) then ((0 : Int) ≤ (↑s_c : Int) ∧ (↑s_c : Int) ≤ (↑s_c : Int)) ∧ ∃ (x : Option Go.Addr), ∃ (x_1 : Nat), ∃ (x_2 : Nat), ∃ (w' : Go.World), Go.Sx.RunsTo Go.Proofs.Try.prog (Go.Builtin.append_
 (Array.mk [(90 : Nat), (3 : Nat)]) (90 : Nat) #[Go.Value.slice (Go.Sx.cutAt s_A s_c (0 : Nat) (1 : Nat)) (Int.toNat (↑s_c : Int) - (0 : Nat)) (s_c - (0 : Nat)), Go.Value.int Go.IntKind.i64
 (Go.IntKind.wrap Go.IntKind.i64 (n - Go.IntKind.wrap Go.IntKind.i64 ((↑s_c : Int) - (↑s_n : Int))))]) w (Go.Value.slice x x_1 x_2) w' ∧ ((0 : Int) ≤ (↑s_n : Int) ∧ (↑s_n : Int) ≤ (↑x_2 : Int)) ∧ K
 (Go.Value.slice (Go.Sx.cutAt x x_2 (0 : Nat) (1 : Nat)) (Int.toNat (↑s_n : Int) - (0 : Nat)) (x_2 - (0 : Nat))) w' else K (Go.Value.slice s_A s_n s_c) w) ∧ bif Decidable.decide (n < (0 : Int)) then
 False else J w
theorem slices_Grow_byte_byte.eq (s_A : Option Addr) (s_n : Nat) (s_c : Nat) (n : Int) (w : World) (K : Value → World → Prop) : slices_Grow_byte_byte.W s_A s_n s_c n w K = fnW Try.prog Try.f91 (.named (.seq .auto (.join [] .auto .auto))) [.slice s_A s_n s_c, .int .i64 n] w K := by kernel_rfl
theorem slices_Grow_byte_byte.calls (ok : Okay Try.prog) {s_A : Option Addr} {s_n : Nat} {s_c : Nat} {n : Int} {w : World} {K : Value → World → Prop} (h : slices_Grow_byte_byte.W s_A s_n s_c n w K) : CallsV Try.prog 91 #[.slice s_A s_n s_c, .int .i64 n] w K :=
  fnW_calls ok Try.func91 (an := (.named (.seq .auto (.join [] .auto .auto)))) (args := [.slice s_A s_n s_c, .int .i64 n]) (by rw [← slices_Grow_byte_byte.eq]; exact h)
noncomputable def slices_Grow_int_int.W : Option Addr → Nat → Nat → Int → World → (Value → World → Prop) → Prop := fun (s_A : Option Go.Addr) (s_n s_c : Nat) (n : Int) (w : Go.World) (K : Go.Value →
 Go.World → Prop) => ∃ (J : Go.World → Prop), (∀ (w : Go.World), J w → bif Decidable.decide ((0 : Int) < Go.IntKind.wrap Go.IntKind.i64 (n - Go.IntKind.wrap Go.IntKind.i64 ((↑s_c : Int) - (↑s_n :
 Int)))) then ((0 : Int) ≤ (↑s_c : Int) ∧ (↑s_c : Int) ≤ (↑s_c : Int)) ∧ ∃ (x : Option Go.Addr), ∃ (x_1 : Nat), ∃ (x_2 : Nat), ∃ (w' : Go.World), Go.Sx.RunsTo Go.Proofs.Try.prog (Go.Builtin.append_
 (Array.mk [(22 : Nat), (3 : Nat)]) (22 : Nat) #[Go.Value.slice (Go.Sx.cutAt s_A s_c (0 : Nat) (1 : Nat)) (Int.toNat (↑s_c : Int) - (0 : Nat)) (s_c - (0 : Nat)), Go.Value.int Go.IntKind.i64
 (Go.IntKind.wrap Go.IntKind.i64 (n - Go.IntKind.wrap Go.IntKind.i64 ((↑s_c : Int) - (↑s_n : Int))))]) w (Go.Value.slice x x_1 x_2) w' ∧ ((0 : Int) ≤ (↑s_n : Int) ∧ (↑s_n : Int) ≤ (↑x_2 : Int)) ∧ K
 (Go.Value.slice (Go.Sx.cutAt x x_2 (0 : Nat) (1 : Nat)) (Int.toNat (↑s_n : Int) - (0 : Nat)) (x_2 - (0 : Nat))) w' else K (Go.Value.slice s_A s_n s_c) w) ∧ bif Decidable.decide (n < (0 : Int)) then
 False else J w
theorem slices_Grow_int_int.eq (s_A : Option Addr) (s_n : Nat) (s_c : Nat) (n : Int) (w : World) (K : Value → World → Prop) : slices_Grow_int_int.W s_A s_n s_c n w K = fnW Try.prog Try.f92 (.named (.seq .auto (.join [] .auto .auto))) [.slice s_A s_n s_c, .int .i64 n] w K := by kernel_rfl
theorem slices_Grow_int_int.calls (ok : Okay Try.prog) {s_A : Option Addr} {s_n : Nat} {s_c : Nat} {n : Int} {w : World} {K : Value → World → Prop} (h : slices_Grow_int_int.W s_A s_n s_c n w K) : CallsV Try.prog 92 #[.slice s_A s_n s_c, .int .i64 n] w K :=
  fnW_calls ok Try.func92 (an := (.named (.seq .auto (.join [] .auto .auto)))) (args := [.slice s_A s_n s_c, .int .i64 n]) (by rw [← slices_Grow_int_int.eq]; exact h)
noncomputable def slices_AppendSeq_int_int.W : Option Addr → Nat → Nat → Value → World → (Value → World → Prop) → Prop := fun (s_A : Option Go.Addr) (s_n s_c : Nat) (seq : Go.Value) (w : Go.World) (K :
 Go.Value → Go.World → Prop) => ∀ (g : Nat) (w' : Go.World), Go.Sx.Fresh w g w' [Go.Value.slice s_A s_n s_c] (22 : Nat) → False
theorem slices_AppendSeq_int_int.eq (s_A : Option Addr) (s_n : Nat) (s_c : Nat) (seq : Value) (w : World) (K : Value → World → Prop) : slices_AppendSeq_int_int.W s_A s_n s_c seq w K = fnW Try.prog Try.f80 (.named .auto) [.slice s_A s_n s_c, seq] w K := by kernel_rfl
theorem slices_AppendSeq_int_int.calls (ok : Okay Try.prog) {s_A : Option Addr} {s_n : Nat} {s_c : Nat} {seq : Value} {w : World} {K : Value → World → Prop} (h : slices_AppendSeq_int_int.W s_A s_n s_c seq w K) : CallsV Try.prog 80 #[.slice s_A s_n s_c, seq] w K :=
  fnW_calls ok Try.func80 (an := (.named .auto)) (args := [.slice s_A s_n s_c, seq]) (by rw [← slices_AppendSeq_int_int.eq]; exact h)
noncomputable def slices_Collect_int.W : Value → World → (Value → World → Prop) → Prop := fun (seq : Go.Value) (w : Go.World) (K : Go.Value → Go.World → Prop) => Go.Sx.CallsV Go.Proofs.Try.prog (80 :
 Nat) #[Go.Value.slice Option.none (0 : Nat) (0 : Nat), seq] w fun (v : Go.Value) (w' : Go.World) => ∃ (x : Option Go.Addr), ∃ (x_1 : Nat), ∃ (x_2 : Nat), v = Go.Value.slice x x_1 x_2 ∧ K
 (Go.Value.slice x x_1 x_2) w'
theorem slices_Collect_int.eq (seq : Value) (w : World) (K : Value → World → Prop) : slices_Collect_int.W seq w K = fnW Try.prog Try.f61 (.named .auto) [seq] w K := by kernel_rfl
theorem slices_Collect_int.calls (ok : Okay Try.prog) {seq : Value} {w : World} {K : Value → World → Prop} (h : slices_Collect_int.W seq w K) : CallsV Try.prog 61 #[seq] w K :=
  fnW_calls ok Try.func61 (an := (.named .auto)) (args := [seq]) (by rw [← slices_Collect_int.eq]; exact h)
end Go.Proofs.Ytadlhdiejmilmaa
/- The preconditions of Go functions, printed by a program of this workplace (nests.py); each is proved to be the engine's own. -/
set_option linter.unusedVariables false
set_option maxRecDepth 100000
namespace Go.Proofs.Ytadlhdiejmilmaa
open Go Go.Sx
noncomputable def slices_BinarySearchFunc_byte_byte_byte.W : Option Addr → Nat → Nat → Option Addr → Nat → Nat → Value → World → (Value → World → Prop) → Prop := fun (x_A : Option Go.Addr) (x_n x_c :
 Nat) (target_A : Option Go.Addr) (target_n target_c : Nat) (cmp : Go.Value) (w : Go.World) (K : Go.Value → Go.World → Prop) => ∃ (I : Int → Int → Go.World → Prop), ∃ (μ : Int → Int → Go.World → Nat), I
 (0 : Int) (↑x_n : Int) w ∧ ∀ (x x_1 : Int) (w : Go.World), I x x_1 w → bif Decidable.decide (x < x_1) then (0 : Int) ≤ (1 : Int) ∧ ∃ (ad : Go.Addr), x_A = Option.some ad ∧ ((0 : Int) ≤ Go.IntKind.wrap
 Go.IntKind.i64 (Int.fdiv (Go.IntKind.wrap Go.IntKind.u64 (Go.IntKind.wrap Go.IntKind.i64 (x + x_1))) ((2 : Int) ^ Min.min (Int.toNat (1 : Int)) (64 : Nat))) ∧ Go.IntKind.wrap Go.IntKind.i64 (Int.fdiv
 (Go.IntKind.wrap Go.IntKind.u64 (Go.IntKind.wrap Go.IntKind.i64 (x + x_1))) ((2 : Int) ^ Min.min (Int.toNat (1 : Int)) (64 : Nat))) < (↑x_n : Int)) ∧ ∃ (x_2 : Option Go.Addr), ∃ (x_3 : Nat), ∃ (x_4 :
 Nat), Go.World.cell? w (Go.Addr.add ad (Int.toNat (Go.IntKind.wrap Go.IntKind.i64 (Int.fdiv (Go.IntKind.wrap Go.IntKind.u64 (Go.IntKind.wrap Go.IntKind.i64 (x + x_1))) ((2 : Int) ^ Min.min (Int.toNat
 (1 : Int)) (64 : Nat)))) * (1 : Nat))) = Option.some (Go.Value.slice x_2 x_3 x_4) ∧ ∃ (fid : Nat), ∃ (first : Array Go.Value), ∃ (captured : Array Go.Value), cmp = Go.Value.func (Go.Fn.func fid) first
 captured ∧ Go.Sx.bodied Go.Proofs.Try.prog fid = Bool.true ∧ Go.Sx.CallsV Go.Proofs.Try.prog fid (List.toArray (Array.toList first ++ ([Go.Value.slice x_2 x_3 x_4, Go.Value.slice target_A target_n
 target_c] ++ Array.toList captured))) w fun (r : Go.Value) (w' : Go.World) => ∃ (x_5 : Int), r = Go.Value.int Go.IntKind.i64 x_5 ∧ bif Decidable.decide (x_5 < (0 : Int)) then I (Go.IntKind.wrap
 Go.IntKind.i64 (Go.IntKind.wrap Go.IntKind.i64 (Int.fdiv (Go.IntKind.wrap Go.IntKind.u64 (Go.IntKind.wrap Go.IntKind.i64 (x + x_1))) ((2 : Int) ^ Min.min (Int.toNat (1 : Int)) (64 : Nat))) + (1 :
 Int))) x_1 w' ∧ μ (Go.IntKind.wrap Go.IntKind.i64 (Go.IntKind.wrap Go.IntKind.i64 (Int.fdiv (Go.IntKind.wrap Go.IntKind.u64 (Go.IntKind.wrap Go.IntKind.i64 (x + x_1))) ((2 : Int) ^ Min.min (Int.toNat
 (1 : Int)) (64 : Nat))) + (1 : Int))) x_1 w' < μ x x_1 w else I x (Go.IntKind.wrap Go.IntKind.i64 (Int.fdiv (Go.IntKind.wrap Go.IntKind.u64 (Go.IntKind.wrap Go.IntKind.i64 (x + x_1))) ((2 : Int) ^
 Min.min (Int.toNat (1 : Int)) (64 : Nat)))) w' ∧ μ x (Go.IntKind.wrap Go.IntKind.i64 (Int.fdiv (Go.IntKind.wrap Go.IntKind.u64 (Go.IntKind.wrap Go.IntKind.i64 (x + x_1))) ((2 : Int) ^ Min.min
 (Int.toNat (1 : Int)) (64 : Nat)))) w' < μ x x_1 w else bif Decidable.decide (x < (↑x_n : Int)) then ∃ (ad : Go.Addr), x_A = Option.some ad ∧ ((0 : Int) ≤ x ∧ x < (↑x_n : Int)) ∧ ∃ (x_2 : Option
 Go.Addr), ∃ (x_3 : Nat), ∃ (x_4 : Nat), Go.World.cell? w (Go.Addr.add ad (Int.toNat x * (1 : Nat))) = Option.some (Go.Value.slice x_2 x_3 x_4) ∧ ∃ (fid : Nat), ∃ (first : Array Go.Value), ∃ (captured :
 Array Go.Value), cmp = Go.Value.func (Go.Fn.func fid) first captured ∧ Go.Sx.bodied Go.Proofs.Try.prog fid = Bool.true ∧ Go.Sx.CallsV Go.Proofs.Try.prog fid (List.toArray (Array.toList first ++
 ([Go.Value.slice x_2 x_3 x_4, Go.Value.slice target_A target_n target_c] ++ Array.toList captured))) w fun (r : Go.Value) (w' : Go.World) => ∃ (x_5 : Int), r = Go.Value.int Go.IntKind.i64 x_5 ∧ K
 (Go.Value.tuple #[Go.Value.int Go.IntKind.i64 x, Go.Value.bool (Decidable.decide (x_5 = (0 : Int)))]) w' else K (Go.Value.tuple #[Go.Value.int Go.IntKind.i64 x, Go.Value.bool Bool.false]) w
theorem slices_BinarySearchFunc_byte_byte_byte.eq (x_A : Option Addr) (x_n : Nat) (x_c : Nat) (target_A : Option Addr) (target_n : Nat) (target_c : Nat) (cmp : Value) (w : World) (K : Value → World → Prop) : slices_BinarySearchFunc_byte_byte_byte.W x_A x_n x_c target_A target_n target_c cmp w K = fnW Try.prog Try.f47 (.named (.named (.seq .auto (.seq .auto (.seq .auto (.seq (.block (.loop [(9, .one (.int .i64)), (10, .one (.int .i64))] .auto)) .auto)))))) [.slice x_A x_n x_c, .slice target_A target_n target_c, cmp] w K := by kernel_rfl
theorem slices_BinarySearchFunc_byte_byte_byte.calls (ok : Okay Try.prog) {x_A : Option Addr} {x_n : Nat} {x_c : Nat} {target_A : Option Addr} {target_n : Nat} {target_c : Nat} {cmp : Value} {w : World} {K : Value → World → Prop} (h : slices_BinarySearchFunc_byte_byte_byte.W x_A x_n x_c target_A target_n target_c cmp w K) : CallsV Try.prog 47 #[.slice x_A x_n x_c, .slice target_A target_n target_c, cmp] w K :=
  fnW_calls ok Try.func47 (an := (.named (.named (.seq .auto (.seq .auto (.seq .auto (.seq (.block (.loop [(9, .one (.int .i64)), (10, .one (.int .i64))] .auto)) .auto))))))) (args := [.slice x_A x_n x_c, .slice target_A target_n target_c, cmp]) (by rw [← slices_BinarySearchFunc_byte_byte_byte.eq]; exact h)
noncomputable def tree_Arena_all_1.W : Value → Addr → Addr → World → (Value → World → Prop) → Prop := fun (yield : Go.Value) (a1 a2 : Go.Addr) (w : Go.World) (K : Go.Value → Go.World → Prop) => ∃ (x :
 Int), Go.World.cell? w a1 = Option.some (Go.Value.int Go.IntKind.i64 x) ∧ ∀ (g : Nat) (w' : Go.World), Go.Sx.Fresh w g w' [Go.Value.int Go.IntKind.i64 x] (3 : Nat) → ∃ (I : Option Go.Addr → Nat → Nat →
 Go.World → Prop), ∃ (μ : Option Go.Addr → Nat → Nat → Go.World → Nat), I (Option.some (Go.Addr.mk g (0 : Nat) Option.none)) (1 : Nat) (1 : Nat) w' ∧ ∀ (x : Option Go.Addr) (x_1 x_2 : Nat) (w :
 Go.World), I x x_1 x_2 w → bif Decidable.decide ((0 : Int) < (↑x_1 : Int)) then ∃ (ad : Go.Addr), x = Option.some ad ∧ ((0 : Int) ≤ Go.IntKind.wrap Go.IntKind.i64 ((↑x_1 : Int) - (1 : Int)) ∧
 Go.IntKind.wrap Go.IntKind.i64 ((↑x_1 : Int) - (1 : Int)) < (↑x_1 : Int)) ∧ ∃ (x_3 : Int), Go.World.cell? w (Go.Addr.add ad (Int.toNat (Go.IntKind.wrap Go.IntKind.i64 ((↑x_1 : Int) - (1 : Int))) * (1 :
 Nat))) = Option.some (Go.Value.int Go.IntKind.i64 x_3) ∧ ((0 : Int) ≤ Go.IntKind.wrap Go.IntKind.i64 ((↑x_1 : Int) - (1 : Int)) ∧ Go.IntKind.wrap Go.IntKind.i64 ((↑x_1 : Int) - (1 : Int)) ≤ (↑x_2 :
 Int)) ∧ ∃ (S : Go.World → Prop), S (Go.World.drew w) ∧ ∃ (x_4 : Option Go.Addr), (∀ (u : Go.World), S u → Go.World.cell? u a2 = Option.some (Go.Value.pointer x_4)) ∧ ∃ (a : Go.Addr), x_4 = Option.some
 a ∧ ∃ (x_5 : Option Go.Addr), ∃ (x_6 : Nat), ∃ (x_7 : Nat), (∀ (u : Go.World), S u → Go.World.cell? u (Go.Addr.add a (2 : Nat)) = Option.some (Go.Value.slice x_5 x_6 x_7)) ∧ ∃ (ad : Go.Addr), x_5 =
 Option.some ad ∧ ((0 : Int) ≤ x_3 ∧ x_3 < (↑x_6 : Int)) ∧ ∃ (x_8 : Option Go.Addr), (∀ (u : Go.World), S u → Go.World.cell? u (Go.Addr.add ad (Int.toNat x_3 * (1 : Nat))) = Option.some
 (Go.Value.pointer x_8)) ∧ ∃ (a : Go.Addr), x_8 = Option.some a ∧ ∃ (x_9 : Option Go.Addr), ∃ (x_10 : Nat), ∃ (x_11 : Nat), (∀ (u : Go.World), S u → Go.World.cell? u (Go.Addr.add a (2 : Nat)) =
 Option.some (Go.Value.slice x_9 x_10 x_11)) ∧ ∃ (x_12 : Option Go.Addr), ∃ (x_13 : Nat), ∃ (x_14 : Nat), ∃ (w' : Go.World), Go.Sx.RunsTo Go.Proofs.Try.prog (Go.Builtin.append_ (Array.mk [(22 : Nat),
 (22 : Nat)]) (22 : Nat) #[Go.Value.slice (Go.Sx.cutAt x x_2 (0 : Nat) (1 : Nat)) (Int.toNat (Go.IntKind.wrap Go.IntKind.i64 ((↑x_1 : Int) - (1 : Int))) - (0 : Nat)) (x_2 - (0 : Nat)), Go.Value.slice
 x_9 x_10 x_11]) (Go.World.drew w) (Go.Value.slice x_12 x_13 x_14) w' ∧ S w' ∧ ∃ (fid : Nat), ∃ (first : Array Go.Value), ∃ (captured : Array Go.Value), yield = Go.Value.func (Go.Fn.func fid) first
 captured ∧ Go.Sx.bodied Go.Proofs.Try.prog fid = Bool.true ∧ Go.Sx.CallsV Go.Proofs.Try.prog fid (List.toArray (Array.toList first ++ ([Go.Value.int Go.IntKind.i64 x_3] ++ Array.toList captured))) w'
 fun (r : Go.Value) (w' : Go.World) => ∃ (x_15 : Bool), r = Go.Value.bool x_15 ∧ bif !x_15 then K (Go.Value.tuple #[]) w' else I x_12 x_13 x_14 w' ∧ μ x_12 x_13 x_14 w' < μ x x_1 x_2 w else K
 (Go.Value.tuple #[]) w
theorem tree_Arena_all_1.eq (yield : Value) (a1 : Addr) (a2 : Addr) (w : World) (K : Value → World → Prop) : tree_Arena_all_1.W yield a1 a2 w K = fnW Try.prog Try.f77 (.named (.named (.seq .auto (.block (.loop [(4, .one .slc)] .auto))))) [yield, .pointer (some a1), .pointer (some a2)] w K := by kernel_rfl
theorem tree_Arena_all_1.calls (ok : Okay Try.prog) {yield : Value} {a1 : Addr} {a2 : Addr} {w : World} {K : Value → World → Prop} (h : tree_Arena_all_1.W yield a1 a2 w K) : CallsV Try.prog 77 #[yield, .pointer (some a1), .pointer (some a2)] w K :=
  fnW_calls ok Try.func77 (an := (.named (.named (.seq .auto (.block (.loop [(4, .one .slc)] .auto)))))) (args := [yield, .pointer (some a1), .pointer (some a2)]) (by rw [← tree_Arena_all_1.eq]; exact h)
end Go.Proofs.Ytadlhdiejmilmaa
