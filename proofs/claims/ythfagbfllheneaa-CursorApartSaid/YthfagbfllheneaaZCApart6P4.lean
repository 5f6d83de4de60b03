/- Part 4 of the texts of this claim: the engine, contracts, plain laws. -/
import Derived.Test.YthfagbfllheneaaProg
import Derived.Test.YthfagbfllheneaaZCApart6P2
import Derived.Lib.Bytealg
set_option linter.unusedVariables false
set_option maxRecDepth 100000
namespace Go.Proofs.Ythfagbfllheneaa
open Go Go.Sx
noncomputable def slices_Clone_byte_byte.W : Option Addr → Nat → Nat → World → (Value → World → Prop) → Prop := fun (s_A : Option Addr) (s_n s_c : Nat) (w : World) (K : Value → World → Prop) => bif
 Option.isNone s_A then K (Value.slice none 0 0) w else ∀ (g : Nat) (w' : World), Fresh w g w' [] 5 → ∃ (x : Option Addr) (x_1 x_2 : Nat) (w'_1 : World), RunsTo Try.prog (Builtin.append_
 (Array.mk [28, 28]) 28 #[Value.slice (some (Addr.mk g 0 none)) 0 0, Value.slice s_A s_n s_c]) w' (Value.slice x x_1 x_2) w'_1 ∧ K (Value.slice x x_1 x_2) w'_1
theorem slices_Clone_byte_byte.calls (ok : Okay Try.prog) {s_A : Option Addr} {s_n : Nat} {s_c : Nat} {w : World} {K : Value → World → Prop} (h : slices_Clone_byte_byte.W s_A s_n s_c w K) : CallsV Try.prog 114 #[.slice s_A s_n s_c] w K :=
  fnW_calls ok Try.func114 (an := (.named .auto)) (args := [.slice s_A s_n s_c]) (Eq.mp (by kernel_rfl) h)
noncomputable def slices_Clone_tree_node_tree_node.W : Option Addr → Nat → Nat → World → (Value → World → Prop) → Prop := fun (s_A : Option Addr) (s_n s_c : Nat) (w : World) (K : Value → World → Prop)
 => bif Option.isNone s_A then K (Value.slice none 0 0) w else ∀ (g : Nat) (w' : World), Fresh w g w' [] 150 → ∃ (x : Option Addr) (x_1 x_2 : Nat) (w'_1 : World), RunsTo Try.prog (Builtin.append_
 (Array.mk [146, 146]) 146 #[Value.slice (some (Addr.mk g 0 none)) 0 0, Value.slice s_A s_n s_c]) w' (Value.slice x x_1 x_2) w'_1 ∧ K (Value.slice x x_1 x_2) w'_1
theorem slices_Clone_tree_node_tree_node.calls (ok : Okay Try.prog) {s_A : Option Addr} {s_n : Nat} {s_c : Nat} {w : World} {K : Value → World → Prop} (h : slices_Clone_tree_node_tree_node.W s_A s_n s_c w K) : CallsV Try.prog 105 #[.slice s_A s_n s_c] w K :=
  fnW_calls ok Try.func105 (an := (.named .auto)) (args := [.slice s_A s_n s_c]) (Eq.mp (by kernel_rfl) h)
noncomputable def slices_Clone_int_int.W : Option Addr → Nat → Nat → World → (Value → World → Prop) → Prop := fun (s_A : Option Addr) (s_n s_c : Nat) (w : World) (K : Value → World → Prop) => bif
 Option.isNone s_A then K (Value.slice none 0 0) w else ∀ (g : Nat) (w' : World), Fresh w g w' [] 3 → ∃ (x : Option Addr) (x_1 x_2 : Nat) (w'_1 : World), RunsTo Try.prog (Builtin.append_
 (Array.mk [37, 37]) 37 #[Value.slice (some (Addr.mk g 0 none)) 0 0, Value.slice s_A s_n s_c]) w' (Value.slice x x_1 x_2) w'_1 ∧ K (Value.slice x x_1 x_2) w'_1
theorem slices_Clone_int_int.calls (ok : Okay Try.prog) {s_A : Option Addr} {s_n : Nat} {s_c : Nat} {w : World} {K : Value → World → Prop} (h : slices_Clone_int_int.W s_A s_n s_c w K) : CallsV Try.prog 72 #[.slice s_A s_n s_c] w K :=
  fnW_calls ok Try.func72 (an := (.named .auto)) (args := [.slice s_A s_n s_c]) (Eq.mp (by kernel_rfl) h)
noncomputable def maps_Clone_map_int_int_int_int.W : Option Nat → World → (Value → World → Prop) → Prop := fun (m : Option Nat) (w : World) (K : Value → World → Prop) => bif Option.isNone m then K
 (Value.map none) w else ∃ (x : Value) (w' : World), RunsTo Try.prog (callFunc 125 #[Value.iface 145 (Value.map m)]) w (Next.value x) w' ∧ False
theorem maps_Clone_map_int_int_int_int.calls (ok : Okay Try.prog) {m : Option Nat} {w : World} {K : Value → World → Prop} (h : maps_Clone_map_int_int_int_int.W m w K) : CallsV Try.prog 106 #[.map m] w K :=
  fnW_calls ok Try.func106 (an := (.named .auto)) (args := [.map m]) (Eq.mp (by kernel_rfl) h)
noncomputable def slices_Clone_byte_byte_2.W : Option Addr → Nat → Nat → World → (Value → World → Prop) → Prop := fun (s_A : Option Addr) (s_n s_c : Nat) (w : World) (K : Value → World → Prop) => bif
 Option.isNone s_A then K (Value.slice none 0 0) w else ∀ (g : Nat) (w' : World), Fresh w g w' [] 28 → ∃ (x : Option Addr) (x_1 x_2 : Nat) (w'_1 : World), RunsTo Try.prog (Builtin.append_
 (Array.mk [155, 155]) 155 #[Value.slice (some (Addr.mk g 0 none)) 0 0, Value.slice s_A s_n s_c]) w' (Value.slice x x_1 x_2) w'_1 ∧ K (Value.slice x x_1 x_2) w'_1
theorem slices_Clone_byte_byte_2.calls (ok : Okay Try.prog) {s_A : Option Addr} {s_n : Nat} {s_c : Nat} {w : World} {K : Value → World → Prop} (h : slices_Clone_byte_byte_2.W s_A s_n s_c w K) : CallsV Try.prog 128 #[.slice s_A s_n s_c] w K :=
  fnW_calls ok Try.func128 (an := (.named .auto)) (args := [.slice s_A s_n s_c]) (Eq.mp (by kernel_rfl) h)
noncomputable def slices_Insert_byte_byte.W : Option Addr → Nat → Nat → Int → Option Addr → Nat → Nat → World → (Value → World → Prop) → Prop := fun (s_A : Option Addr) (s_n s_c : Nat) (i : Int) (v_A :
 Option Addr) (v_n v_c : Nat) (w : World) (K : Value → World → Prop) => ((0 : Int) ≤ i ∧ i ≤ (↑s_n : Int)) ∧ bif decide ((↑v_n : Int) = (0 : Int)) then K (Value.slice s_A s_n s_c) w else bif
 decide (i = (↑s_n : Int)) then ∃ (x : Option Addr) (x_1 x_2 : Nat) (w' : World), RunsTo Try.prog (Builtin.append_ (Array.mk [155, 155]) 155 #[Value.slice s_A s_n s_c, Value.slice v_A v_n
 v_c]) w (Value.slice x x_1 x_2) w' ∧ K (Value.slice x x_1 x_2) w' else bif decide ((↑s_c : Int) < IntKind.wrap IntKind.i64 ((↑s_n : Int) + (↑v_n : Int))) then ((0 : Int) ≤ i ∧ i ≤ (↑s_c :
 Int)) ∧ ∃ (x : Option Addr) (x_1 x_2 : Nat) (w' : World), RunsTo Try.prog (Builtin.append_ (Array.mk [155, 3]) 155 #[Value.slice (cutAt s_A s_c 0 1) (Int.toNat i - 0) (s_c - 0), Value.int IntKind.i64
 (IntKind.wrap IntKind.i64 (IntKind.wrap IntKind.i64 ((↑s_n : Int) + (↑v_n : Int)) - i))]) w (Value.slice x x_1 x_2) w' ∧ ((0 : Int) ≤ i ∧ i ≤ (↑x_1 : Int)) ∧ ∃ (x_3 : Int) (w'_1 : World), RunsTo
 Try.prog (Builtin.copy_ (Array.mk [155, 155]) 3 #[Value.slice (cutAt x x_2 (Int.toNat i) 1) (x_1 - Int.toNat i) (x_2 - Int.toNat i), Value.slice v_A v_n v_c]) w' (Value.int IntKind.i64 x_3) w'_1 ∧ ((0
 : Int) ≤ IntKind.wrap IntKind.i64 (i + (↑v_n : Int)) ∧ IntKind.wrap IntKind.i64 (i + (↑v_n : Int)) ≤ (↑x_1 : Int)) ∧ ((0 : Int) ≤ i ∧ i ≤ (↑s_n : Int)) ∧ ∃ (x_4 : Int) (w' : World), RunsTo Try.prog
 (Builtin.copy_ (Array.mk [155, 155]) 3 #[Value.slice (cutAt x x_2 (Int.toNat (IntKind.wrap IntKind.i64 (i + (↑v_n : Int)))) 1) (x_1 - Int.toNat (IntKind.wrap IntKind.i64 (i + (↑v_n : Int)))) (x_2 -
 Int.toNat (IntKind.wrap IntKind.i64 (i + (↑v_n : Int)))), Value.slice (cutAt s_A s_c (Int.toNat i) 1) (s_n - Int.toNat i) (s_c - Int.toNat i)]) (World.drew w'_1) (Value.int IntKind.i64 x_4) w' ∧ K
 (Value.slice x x_1 x_2) w' else ((0 : Int) ≤ IntKind.wrap IntKind.i64 ((↑s_n : Int) + (↑v_n : Int)) ∧ IntKind.wrap IntKind.i64 ((↑s_n : Int) + (↑v_n : Int)) ≤ (↑s_c : Int)) ∧ ((0 : Int) ≤ IntKind.wrap
 IntKind.i64 (i + (↑v_n : Int)) ∧ IntKind.wrap IntKind.i64 (i + (↑v_n : Int)) ≤ (↑(Int.toNat (IntKind.wrap IntKind.i64 ((↑s_n : Int) + (↑v_n : Int))) - 0) : Int)) ∧ ∃ (x : Bool) (w' : World), RunsTo
 Try.prog (callFunc 136 #[Value.slice v_A v_n v_c, Value.slice (cutAt (cutAt s_A s_c 0 1) (s_c - 0) (Int.toNat (IntKind.wrap IntKind.i64 (i + (↑v_n : Int)))) 1) (Int.toNat (IntKind.wrap IntKind.i64
 ((↑s_n : Int) + (↑v_n : Int))) - 0 - Int.toNat (IntKind.wrap IntKind.i64 (i + (↑v_n : Int)))) (s_c - 0 - Int.toNat (IntKind.wrap IntKind.i64 (i + (↑v_n : Int))))]) w (Next.value (Value.bool x)) w' ∧
 bif !x then ((0 : Int) ≤ IntKind.wrap IntKind.i64 (i + (↑v_n : Int)) ∧ IntKind.wrap IntKind.i64 (i + (↑v_n : Int)) ≤ (↑(Int.toNat (IntKind.wrap IntKind.i64 ((↑s_n : Int) + (↑v_n : Int))) - 0) : Int)) ∧
 ((0 : Int) ≤ i ∧ i ≤ (↑(Int.toNat (IntKind.wrap IntKind.i64 ((↑s_n : Int) + (↑v_n : Int))) - 0) : Int)) ∧ ∃ (x : Int) (w'_1 : World), RunsTo Try.prog (Builtin.copy_ (Array.mk [155, 155]) 3
 #[Value.slice (cutAt (cutAt s_A s_c 0 1) (s_c - 0) (Int.toNat (IntKind.wrap IntKind.i64 (i + (↑v_n : Int)))) 1) (Int.toNat (IntKind.wrap IntKind.i64 ((↑s_n : Int) + (↑v_n : Int))) - 0 - Int.toNat
 (IntKind.wrap IntKind.i64 (i + (↑v_n : Int)))) (s_c - 0 - Int.toNat (IntKind.wrap IntKind.i64 (i + (↑v_n : Int)))), Value.slice (cutAt (cutAt s_A s_c 0 1) (s_c - 0) (Int.toNat i) 1) (Int.toNat
 (IntKind.wrap IntKind.i64 ((↑s_n : Int) + (↑v_n : Int))) - 0 - Int.toNat i) (s_c - 0 - Int.toNat i)]) (World.drew w') (Value.int IntKind.i64 x) w'_1 ∧ ((0 : Int) ≤ i ∧ i ≤ (↑(Int.toNat (IntKind.wrap
 IntKind.i64 ((↑s_n : Int) + (↑v_n : Int))) - 0) : Int)) ∧ ∃ (x : Int) (w' : World), RunsTo Try.prog (Builtin.copy_ (Array.mk [155, 155]) 3 #[Value.slice (cutAt (cutAt s_A s_c 0 1) (s_c - 0) (Int.toNat
 i) 1) (Int.toNat (IntKind.wrap IntKind.i64 ((↑s_n : Int) + (↑v_n : Int))) - 0 - Int.toNat i) (s_c - 0 - Int.toNat i), Value.slice v_A v_n v_c]) w'_1 (Value.int IntKind.i64 x) w' ∧ K (Value.slice (cutAt
 s_A s_c 0 1) (Int.toNat (IntKind.wrap IntKind.i64 ((↑s_n : Int) + (↑v_n : Int))) - 0) (s_c - 0)) w' else ((0 : Int) ≤ (↑s_n : Int) ∧ (↑s_n : Int) ≤ (↑(Int.toNat (IntKind.wrap IntKind.i64 ((↑s_n : Int)
 + (↑v_n : Int))) - 0) : Int)) ∧ ∃ (x : Int) (w'_1 : World), RunsTo Try.prog (Builtin.copy_ (Array.mk [155, 155]) 3 #[Value.slice (cutAt (cutAt s_A s_c 0 1) (s_c - 0) (Int.toNat (↑s_n : Int)) 1)
 (Int.toNat (IntKind.wrap IntKind.i64 ((↑s_n : Int) + (↑v_n : Int))) - 0 - Int.toNat (↑s_n : Int)) (s_c - 0 - Int.toNat (↑s_n : Int)), Value.slice v_A v_n v_c]) w' (Value.int IntKind.i64 x) w'_1 ∧ ((0 :
 Int) ≤ i ∧ i ≤ (↑(Int.toNat (IntKind.wrap IntKind.i64 ((↑s_n : Int) + (↑v_n : Int))) - 0) : Int)) ∧ CallsV Try.prog 137 #[Value.slice (cutAt (cutAt s_A s_c 0 1) (s_c - 0) (Int.toNat i) 1) (Int.toNat
 (IntKind.wrap IntKind.i64 ((↑s_n : Int) + (↑v_n : Int))) - 0 - Int.toNat i) (s_c - 0 - Int.toNat i), Value.int IntKind.i64 (↑v_n : Int)] w'_1 fun (v : Value) (w' : World) => v = Value.tuple #[] ∧ K
 (Value.slice (cutAt s_A s_c 0 1) (Int.toNat (IntKind.wrap IntKind.i64 ((↑s_n : Int) + (↑v_n : Int))) - 0) (s_c - 0)) w'
theorem slices_Insert_byte_byte.calls (ok : Okay Try.prog) {s_A : Option Addr} {s_n : Nat} {s_c : Nat} {i : Int} {v_A : Option Addr} {v_n : Nat} {v_c : Nat} {w : World} {K : Value → World → Prop} (h : slices_Insert_byte_byte.W s_A s_n s_c i v_A v_n v_c w K) : CallsV Try.prog 129 #[.slice s_A s_n s_c, .int .i64 i, .slice v_A v_n v_c] w K :=
  fnW_calls ok Try.func129 (an := (.named .auto)) (args := [.slice s_A s_n s_c, .int .i64 i, .slice v_A v_n v_c]) (Eq.mp (by kernel_rfl) h)
noncomputable def slices_Insert_int_int.W : Option Addr → Nat → Nat → Int → Option Addr → Nat → Nat → World → (Value → World → Prop) → Prop := fun (s_A : Option Addr) (s_n s_c : Nat) (i : Int) (v_A :
 Option Addr) (v_n v_c : Nat) (w : World) (K : Value → World → Prop) => ((0 : Int) ≤ i ∧ i ≤ (↑s_n : Int)) ∧ bif decide ((↑v_n : Int) = (0 : Int)) then K (Value.slice s_A s_n s_c) w else bif
 decide (i = (↑s_n : Int)) then ∃ (x : Option Addr) (x_1 x_2 : Nat) (w' : World), RunsTo Try.prog (Builtin.append_ (Array.mk [37, 37]) 37 #[Value.slice s_A s_n s_c, Value.slice v_A v_n v_c]) w
 (Value.slice x x_1 x_2) w' ∧ K (Value.slice x x_1 x_2) w' else bif decide ((↑s_c : Int) < IntKind.wrap IntKind.i64 ((↑s_n : Int) + (↑v_n : Int))) then ((0 : Int) ≤ i ∧ i ≤ (↑s_c : Int)) ∧ ∃
 (x : Option Addr) (x_1 x_2 : Nat) (w' : World), RunsTo Try.prog (Builtin.append_ (Array.mk [37, 3]) 37 #[Value.slice (cutAt s_A s_c 0 1) (Int.toNat i - 0) (s_c - 0), Value.int IntKind.i64 (IntKind.wrap
 IntKind.i64 (IntKind.wrap IntKind.i64 ((↑s_n : Int) + (↑v_n : Int)) - i))]) w (Value.slice x x_1 x_2) w' ∧ ((0 : Int) ≤ i ∧ i ≤ (↑x_1 : Int)) ∧ ∃ (x_3 : Int) (w'_1 : World), RunsTo Try.prog
 (Builtin.copy_ (Array.mk [37, 37]) 3 #[Value.slice (cutAt x x_2 (Int.toNat i) 1) (x_1 - Int.toNat i) (x_2 - Int.toNat i), Value.slice v_A v_n v_c]) w' (Value.int IntKind.i64 x_3) w'_1 ∧ ((0 : Int) ≤
 IntKind.wrap IntKind.i64 (i + (↑v_n : Int)) ∧ IntKind.wrap IntKind.i64 (i + (↑v_n : Int)) ≤ (↑x_1 : Int)) ∧ ((0 : Int) ≤ i ∧ i ≤ (↑s_n : Int)) ∧ ∃ (x_4 : Int) (w' : World), RunsTo Try.prog
 (Builtin.copy_ (Array.mk [37, 37]) 3 #[Value.slice (cutAt x x_2 (Int.toNat (IntKind.wrap IntKind.i64 (i + (↑v_n : Int)))) 1) (x_1 - Int.toNat (IntKind.wrap IntKind.i64 (i + (↑v_n : Int)))) (x_2 -
 Int.toNat (IntKind.wrap IntKind.i64 (i + (↑v_n : Int)))), Value.slice (cutAt s_A s_c (Int.toNat i) 1) (s_n - Int.toNat i) (s_c - Int.toNat i)]) (World.drew w'_1) (Value.int IntKind.i64 x_4) w' ∧ K
 (Value.slice x x_1 x_2) w' else ((0 : Int) ≤ IntKind.wrap IntKind.i64 ((↑s_n : Int) + (↑v_n : Int)) ∧ IntKind.wrap IntKind.i64 ((↑s_n : Int) + (↑v_n : Int)) ≤ (↑s_c : Int)) ∧ ((0 : Int) ≤ IntKind.wrap
 IntKind.i64 (i + (↑v_n : Int)) ∧ IntKind.wrap IntKind.i64 (i + (↑v_n : Int)) ≤ (↑(Int.toNat (IntKind.wrap IntKind.i64 ((↑s_n : Int) + (↑v_n : Int))) - 0) : Int)) ∧ ∃ (x : Bool) (w' : World), RunsTo
 Try.prog (callFunc 138 #[Value.slice v_A v_n v_c, Value.slice (cutAt (cutAt s_A s_c 0 1) (s_c - 0) (Int.toNat (IntKind.wrap IntKind.i64 (i + (↑v_n : Int)))) 1) (Int.toNat (IntKind.wrap IntKind.i64
 ((↑s_n : Int) + (↑v_n : Int))) - 0 - Int.toNat (IntKind.wrap IntKind.i64 (i + (↑v_n : Int)))) (s_c - 0 - Int.toNat (IntKind.wrap IntKind.i64 (i + (↑v_n : Int))))]) w (Next.value (Value.bool x)) w' ∧
 bif !x then ((0 : Int) ≤ IntKind.wrap IntKind.i64 (i + (↑v_n : Int)) ∧ IntKind.wrap IntKind.i64 (i + (↑v_n : Int)) ≤ (↑(Int.toNat (IntKind.wrap IntKind.i64 ((↑s_n : Int) + (↑v_n : Int))) - 0) : Int)) ∧
 ((0 : Int) ≤ i ∧ i ≤ (↑(Int.toNat (IntKind.wrap IntKind.i64 ((↑s_n : Int) + (↑v_n : Int))) - 0) : Int)) ∧ ∃ (x : Int) (w'_1 : World), RunsTo Try.prog (Builtin.copy_ (Array.mk [37, 37]) 3 #[Value.slice
 (cutAt (cutAt s_A s_c 0 1) (s_c - 0) (Int.toNat (IntKind.wrap IntKind.i64 (i + (↑v_n : Int)))) 1) (Int.toNat (IntKind.wrap IntKind.i64 ((↑s_n : Int) + (↑v_n : Int))) - 0 - Int.toNat (IntKind.wrap
 IntKind.i64 (i + (↑v_n : Int)))) (s_c - 0 - Int.toNat (IntKind.wrap IntKind.i64 (i + (↑v_n : Int)))), Value.slice (cutAt (cutAt s_A s_c 0 1) (s_c - 0) (Int.toNat i) 1) (Int.toNat (IntKind.wrap
 IntKind.i64 ((↑s_n : Int) + (↑v_n : Int))) - 0 - Int.toNat i) (s_c - 0 - Int.toNat i)]) (World.drew w') (Value.int IntKind.i64 x) w'_1 ∧ ((0 : Int) ≤ i ∧ i ≤ (↑(Int.toNat (IntKind.wrap IntKind.i64
 ((↑s_n : Int) + (↑v_n : Int))) - 0) : Int)) ∧ ∃ (x : Int) (w' : World), RunsTo Try.prog (Builtin.copy_ (Array.mk [37, 37]) 3 #[Value.slice (cutAt (cutAt s_A s_c 0 1) (s_c - 0) (Int.toNat i) 1)
 (Int.toNat (IntKind.wrap IntKind.i64 ((↑s_n : Int) + (↑v_n : Int))) - 0 - Int.toNat i) (s_c - 0 - Int.toNat i), Value.slice v_A v_n v_c]) w'_1 (Value.int IntKind.i64 x) w' ∧ K (Value.slice (cutAt s_A
 s_c 0 1) (Int.toNat (IntKind.wrap IntKind.i64 ((↑s_n : Int) + (↑v_n : Int))) - 0) (s_c - 0)) w' else ((0 : Int) ≤ (↑s_n : Int) ∧ (↑s_n : Int) ≤ (↑(Int.toNat (IntKind.wrap IntKind.i64 ((↑s_n : Int) +
 (↑v_n : Int))) - 0) : Int)) ∧ ∃ (x : Int) (w'_1 : World), RunsTo Try.prog (Builtin.copy_ (Array.mk [37, 37]) 3 #[Value.slice (cutAt (cutAt s_A s_c 0 1) (s_c - 0) (Int.toNat (↑s_n : Int)) 1) (Int.toNat
 (IntKind.wrap IntKind.i64 ((↑s_n : Int) + (↑v_n : Int))) - 0 - Int.toNat (↑s_n : Int)) (s_c - 0 - Int.toNat (↑s_n : Int)), Value.slice v_A v_n v_c]) w' (Value.int IntKind.i64 x) w'_1 ∧ ((0 : Int) ≤ i ∧
 i ≤ (↑(Int.toNat (IntKind.wrap IntKind.i64 ((↑s_n : Int) + (↑v_n : Int))) - 0) : Int)) ∧ CallsV Try.prog 139 #[Value.slice (cutAt (cutAt s_A s_c 0 1) (s_c - 0) (Int.toNat i) 1) (Int.toNat (IntKind.wrap
 IntKind.i64 ((↑s_n : Int) + (↑v_n : Int))) - 0 - Int.toNat i) (s_c - 0 - Int.toNat i), Value.int IntKind.i64 (↑v_n : Int)] w'_1 fun (v : Value) (w' : World) => v = Value.tuple #[] ∧ K (Value.slice
 (cutAt s_A s_c 0 1) (Int.toNat (IntKind.wrap IntKind.i64 ((↑s_n : Int) + (↑v_n : Int))) - 0) (s_c - 0)) w'
theorem slices_Insert_int_int.calls (ok : Okay Try.prog) {s_A : Option Addr} {s_n : Nat} {s_c : Nat} {i : Int} {v_A : Option Addr} {v_n : Nat} {v_c : Nat} {w : World} {K : Value → World → Prop} (h : slices_Insert_int_int.W s_A s_n s_c i v_A v_n v_c w K) : CallsV Try.prog 131 #[.slice s_A s_n s_c, .int .i64 i, .slice v_A v_n v_c] w K :=
  fnW_calls ok Try.func131 (an := (.named .auto)) (args := [.slice s_A s_n s_c, .int .i64 i, .slice v_A v_n v_c]) (Eq.mp (by kernel_rfl) h)
noncomputable def slices_Delete_byte_byte.W : Option Addr → Nat → Nat → Int → Int → World → (Value → World → Prop) → Prop := fun (s_A : Option Addr) (s_n s_c : Nat) (i j : Int) (w : World) (K : Value →
 World → Prop) => ((0 : Int) ≤ (↑s_n : Int) ∧ (↑s_n : Int) ≤ (↑s_c : Int)) ∧ ((0 : Int) ≤ j ∧ j ≤ (↑(Int.toNat (↑s_n : Int)) : Int)) ∧ ((0 : Int) ≤ i ∧ i ≤ (↑(Int.toNat j) : Int)) ∧ bif decide
 (i = j) then K (Value.slice s_A s_n s_c) w else ((0 : Int) ≤ i ∧ i ≤ (↑s_c : Int)) ∧ ((0 : Int) ≤ j ∧ j ≤ (↑s_n : Int)) ∧ ∃ (x : Option Addr) (x_1 x_2 : Nat) (w' : World), RunsTo Try.prog
 (Builtin.append_ (Array.mk [155, 155]) 155 #[Value.slice (cutAt s_A s_c 0 1) (Int.toNat i - 0) (s_c - 0), Value.slice (cutAt s_A s_c (Int.toNat j) 1) (s_n - Int.toNat j) (s_c - Int.toNat j)])
 (World.drew w) (Value.slice x x_1 x_2) w' ∧ ((0 : Int) ≤ (↑s_n : Int) ∧ (↑s_n : Int) ≤ (↑x_2 : Int)) ∧ ((0 : Int) ≤ (↑x_1 : Int) ∧ (↑x_1 : Int) ≤ (↑(Int.toNat (↑s_n : Int)) : Int)) ∧ ∃ (w'_1 : World),
 RunsTo Try.prog (Builtin.clear_ (Array.mk [155]) 0 #[Value.slice (cutAt x x_2 (Int.toNat (↑x_1 : Int)) 1) (Int.toNat (↑s_n : Int) - Int.toNat (↑x_1 : Int)) (x_2 - Int.toNat (↑x_1 : Int))]) w'
 (Value.tuple #[]) w'_1 ∧ K (Value.slice x x_1 x_2) w'_1
theorem slices_Delete_byte_byte.calls (ok : Okay Try.prog) {s_A : Option Addr} {s_n : Nat} {s_c : Nat} {i : Int} {j : Int} {w : World} {K : Value → World → Prop} (h : slices_Delete_byte_byte.W s_A s_n s_c i j w K) : CallsV Try.prog 134 #[.slice s_A s_n s_c, .int .i64 i, .int .i64 j] w K :=
  fnW_calls ok Try.func134 (an := (.named .auto)) (args := [.slice s_A s_n s_c, .int .i64 i, .int .i64 j]) (Eq.mp (by kernel_rfl) h)
noncomputable def slices_Delete_int_int.W : Option Addr → Nat → Nat → Int → Int → World → (Value → World → Prop) → Prop := fun (s_A : Option Addr) (s_n s_c : Nat) (i j : Int) (w : World) (K : Value →
 World → Prop) => ((0 : Int) ≤ (↑s_n : Int) ∧ (↑s_n : Int) ≤ (↑s_c : Int)) ∧ ((0 : Int) ≤ j ∧ j ≤ (↑(Int.toNat (↑s_n : Int)) : Int)) ∧ ((0 : Int) ≤ i ∧ i ≤ (↑(Int.toNat j) : Int)) ∧ bif decide
 (i = j) then K (Value.slice s_A s_n s_c) w else ((0 : Int) ≤ i ∧ i ≤ (↑s_c : Int)) ∧ ((0 : Int) ≤ j ∧ j ≤ (↑s_n : Int)) ∧ ∃ (x : Option Addr) (x_1 x_2 : Nat) (w' : World), RunsTo Try.prog
 (Builtin.append_ (Array.mk [37, 37]) 37 #[Value.slice (cutAt s_A s_c 0 1) (Int.toNat i - 0) (s_c - 0), Value.slice (cutAt s_A s_c (Int.toNat j) 1) (s_n - Int.toNat j) (s_c - Int.toNat j)]) (World.drew
 w) (Value.slice x x_1 x_2) w' ∧ ((0 : Int) ≤ (↑s_n : Int) ∧ (↑s_n : Int) ≤ (↑x_2 : Int)) ∧ ((0 : Int) ≤ (↑x_1 : Int) ∧ (↑x_1 : Int) ≤ (↑(Int.toNat (↑s_n : Int)) : Int)) ∧ ∃ (w'_1 : World), RunsTo
 Try.prog (Builtin.clear_ (Array.mk [37]) 0 #[Value.slice (cutAt x x_2 (Int.toNat (↑x_1 : Int)) 1) (Int.toNat (↑s_n : Int) - Int.toNat (↑x_1 : Int)) (x_2 - Int.toNat (↑x_1 : Int))]) w' (Value.tuple #[])
 w'_1 ∧ K (Value.slice x x_1 x_2) w'_1
theorem slices_Delete_int_int.calls (ok : Okay Try.prog) {s_A : Option Addr} {s_n : Nat} {s_c : Nat} {i : Int} {j : Int} {w : World} {K : Value → World → Prop} (h : slices_Delete_int_int.W s_A s_n s_c i j w K) : CallsV Try.prog 142 #[.slice s_A s_n s_c, .int .i64 i, .int .i64 j] w K :=
  fnW_calls ok Try.func142 (an := (.named .auto)) (args := [.slice s_A s_n s_c, .int .i64 i, .int .i64 j]) (Eq.mp (by kernel_rfl) h)
noncomputable def slices_Concat_byte_byte.W : Option Addr → Nat → Nat → World → (Value → World → Prop) → Prop := fun (slices_A : Option Addr) (slices_n slices_c : Nat) (w : World) (K : Value → World →
 Prop) => ∃ (I : Int → Int → World → Prop) (μ : Int → Int → World → Nat), I (0 : Int) (0 : Int) w ∧ ∀ (x x_1 : Int) (w : World), I x x_1 w → bif decide (x_1 < (↑slices_n : Int)) then ∃ (ad :
 Addr), slices_A = some ad ∧ ((0 : Int) ≤ x_1 ∧ x_1 < (↑slices_n : Int)) ∧ ∃ (x_2 : Option Addr) (x_3 x_4 : Nat), World.cell? w (Addr.add ad (Int.toNat x_1 * 1)) = some (Value.slice x_2
 x_3 x_4) ∧ bif decide (IntKind.wrap IntKind.i64 (x + (↑x_3 : Int)) < (0 : Int)) then False else I (IntKind.wrap IntKind.i64 (x + (↑x_3 : Int))) (IntKind.wrap IntKind.i64 (x_1 + (1 : Int))) w
 ∧ μ (IntKind.wrap IntKind.i64 (x + (↑x_3 : Int))) (IntKind.wrap IntKind.i64 (x_1 + (1 : Int))) w < μ x x_1 w else CallsV Try.prog 145 #[Value.slice none 0 0, Value.int IntKind.i64 x] w fun (v :
 Value) (w' : World) => ∃ (x : Option Addr) (x_2 x_3 : Nat), v = Value.slice x x_2 x_3 ∧ ∃ (I : Option Addr → Nat → Nat → Int → World → Prop) (μ : Option Addr → Nat → Nat → Int → World → Nat), I x x_2
 x_3 (0 : Int) w' ∧ ∀ (x : Option Addr) (x_4 x_5 : Nat) (x_6 : Int) (w : World), I x x_4 x_5 x_6 w → bif decide (x_6 < (↑slices_n : Int)) then ∃ (ad : Addr), slices_A = some ad ∧ ((0 :
 Int) ≤ x_6 ∧ x_6 < (↑slices_n : Int)) ∧ ∃ (x_7 : Option Addr) (x_8 x_9 : Nat), World.cell? w (Addr.add ad (Int.toNat x_6 * 1)) = some (Value.slice x_7 x_8 x_9) ∧ ∃ (x_10 : Option Addr) (x_11
 x_12 : Nat) (w' : World), RunsTo Try.prog (Builtin.append_ (Array.mk [155, 155]) 155 #[Value.slice x x_4 x_5, Value.slice x_7 x_8 x_9]) w (Value.slice x_10 x_11 x_12) w' ∧ I x_10 x_11 x_12
 (IntKind.wrap IntKind.i64 (x_6 + (1 : Int))) w' ∧ μ x_10 x_11 x_12 (IntKind.wrap IntKind.i64 (x_6 + (1 : Int))) w' < μ x x_4 x_5 x_6 w else K (Value.slice x x_4 x_5) w
theorem slices_Concat_byte_byte.calls (ok : Okay Try.prog) {slices_A : Option Addr} {slices_n : Nat} {slices_c : Nat} {w : World} {K : Value → World → Prop} (h : slices_Concat_byte_byte.W slices_A slices_n slices_c w K) : CallsV Try.prog 140 #[.slice slices_A slices_n slices_c] w K :=
  fnW_calls ok Try.func140 (an := (.named (.seq .auto (.seq .auto (.seq (.seq .auto (.block (.loop [(3, .one (.int .i64)), (11, .one (.int .i64))] .auto))) (.seq .auto (.seq (.seq .auto (.block (.loop [(6, .one .slc), (27, .one (.int .i64))] .auto))) .auto))))))) (args := [.slice slices_A slices_n slices_c]) (Eq.mp (by kernel_rfl) h)
noncomputable def slices_Concat_int_int.W : Option Addr → Nat → Nat → World → (Value → World → Prop) → Prop := fun (slices_A : Option Addr) (slices_n slices_c : Nat) (w : World) (K : Value → World →
 Prop) => ∃ (I : Int → Int → World → Prop) (μ : Int → Int → World → Nat), I (0 : Int) (0 : Int) w ∧ ∀ (x x_1 : Int) (w : World), I x x_1 w → bif decide (x_1 < (↑slices_n : Int)) then ∃ (ad :
 Addr), slices_A = some ad ∧ ((0 : Int) ≤ x_1 ∧ x_1 < (↑slices_n : Int)) ∧ ∃ (x_2 : Option Addr) (x_3 x_4 : Nat), World.cell? w (Addr.add ad (Int.toNat x_1 * 1)) = some (Value.slice x_2
 x_3 x_4) ∧ bif decide (IntKind.wrap IntKind.i64 (x + (↑x_3 : Int)) < (0 : Int)) then False else I (IntKind.wrap IntKind.i64 (x + (↑x_3 : Int))) (IntKind.wrap IntKind.i64 (x_1 + (1 : Int))) w
 ∧ μ (IntKind.wrap IntKind.i64 (x + (↑x_3 : Int))) (IntKind.wrap IntKind.i64 (x_1 + (1 : Int))) w < μ x x_1 w else CallsV Try.prog 146 #[Value.slice none 0 0, Value.int IntKind.i64 x] w fun (v :
 Value) (w' : World) => ∃ (x : Option Addr) (x_2 x_3 : Nat), v = Value.slice x x_2 x_3 ∧ ∃ (I : Option Addr → Nat → Nat → Int → World → Prop) (μ : Option Addr → Nat → Nat → Int → World → Nat), I x x_2
 x_3 (0 : Int) w' ∧ ∀ (x : Option Addr) (x_4 x_5 : Nat) (x_6 : Int) (w : World), I x x_4 x_5 x_6 w → bif decide (x_6 < (↑slices_n : Int)) then ∃ (ad : Addr), slices_A = some ad ∧ ((0 :
 Int) ≤ x_6 ∧ x_6 < (↑slices_n : Int)) ∧ ∃ (x_7 : Option Addr) (x_8 x_9 : Nat), World.cell? w (Addr.add ad (Int.toNat x_6 * 1)) = some (Value.slice x_7 x_8 x_9) ∧ ∃ (x_10 : Option Addr) (x_11
 x_12 : Nat) (w' : World), RunsTo Try.prog (Builtin.append_ (Array.mk [37, 37]) 37 #[Value.slice x x_4 x_5, Value.slice x_7 x_8 x_9]) w (Value.slice x_10 x_11 x_12) w' ∧ I x_10 x_11 x_12 (IntKind.wrap
 IntKind.i64 (x_6 + (1 : Int))) w' ∧ μ x_10 x_11 x_12 (IntKind.wrap IntKind.i64 (x_6 + (1 : Int))) w' < μ x x_4 x_5 x_6 w else K (Value.slice x x_4 x_5) w
theorem slices_Concat_int_int.calls (ok : Okay Try.prog) {slices_A : Option Addr} {slices_n : Nat} {slices_c : Nat} {w : World} {K : Value → World → Prop} (h : slices_Concat_int_int.W slices_A slices_n slices_c w K) : CallsV Try.prog 141 #[.slice slices_A slices_n slices_c] w K :=
  fnW_calls ok Try.func141 (an := (.named (.seq .auto (.seq .auto (.seq (.seq .auto (.block (.loop [(3, .one (.int .i64)), (11, .one (.int .i64))] .auto))) (.seq .auto (.seq (.seq .auto (.block (.loop [(6, .one .slc), (27, .one (.int .i64))] .auto))) .auto))))))) (args := [.slice slices_A slices_n slices_c]) (Eq.mp (by kernel_rfl) h)
noncomputable def slices_Grow_byte_byte.W : Option Addr → Nat → Nat → Int → World → (Value → World → Prop) → Prop := fun (s_A : Option Addr) (s_n s_c : Nat) (n : Int) (w : World) (K : Value → World →
 Prop) => ∃ (J : World → Prop), (∀ (w : World), J w → bif decide ((0 : Int) < IntKind.wrap IntKind.i64 (n - IntKind.wrap IntKind.i64 ((↑s_c : Int) - (↑s_n : Int)))) then ((0 : Int) ≤ (↑s_c :
 Int) ∧ (↑s_c : Int) ≤ (↑s_c : Int)) ∧ ∃ (x : Option Addr) (x_1 x_2 : Nat) (w' : World), RunsTo Try.prog (Builtin.append_ (Array.mk [155, 3]) 155 #[Value.slice (cutAt s_A s_c 0 1) (Int.toNat (↑s_c :
 Int) - 0) (s_c - 0), Value.int IntKind.i64 (IntKind.wrap IntKind.i64 (n - IntKind.wrap IntKind.i64 ((↑s_c : Int) - (↑s_n : Int))))]) w (Value.slice x x_1 x_2) w' ∧ ((0 : Int) ≤ (↑s_n : Int) ∧ (↑s_n :
 Int) ≤ (↑x_2 : Int)) ∧ K (Value.slice (cutAt x x_2 0 1) (Int.toNat (↑s_n : Int) - 0) (x_2 - 0)) w' else K (Value.slice s_A s_n s_c) w) ∧ bif decide (n < (0 : Int)) then False else J w
theorem slices_Grow_byte_byte.calls (ok : Okay Try.prog) {s_A : Option Addr} {s_n : Nat} {s_c : Nat} {n : Int} {w : World} {K : Value → World → Prop} (h : slices_Grow_byte_byte.W s_A s_n s_c n w K) : CallsV Try.prog 145 #[.slice s_A s_n s_c, .int .i64 n] w K :=
  fnW_calls ok Try.func145 (an := (.named (.seq .auto (.join [] .auto .auto)))) (args := [.slice s_A s_n s_c, .int .i64 n]) (Eq.mp (by kernel_rfl) h)
noncomputable def slices_Grow_int_int.W : Option Addr → Nat → Nat → Int → World → (Value → World → Prop) → Prop := fun (s_A : Option Addr) (s_n s_c : Nat) (n : Int) (w : World) (K : Value → World →
 Prop) => ∃ (J : World → Prop), (∀ (w : World), J w → bif decide ((0 : Int) < IntKind.wrap IntKind.i64 (n - IntKind.wrap IntKind.i64 ((↑s_c : Int) - (↑s_n : Int)))) then ((0 : Int) ≤ (↑s_c :
 Int) ∧ (↑s_c : Int) ≤ (↑s_c : Int)) ∧ ∃ (x : Option Addr) (x_1 x_2 : Nat) (w' : World), RunsTo Try.prog (Builtin.append_ (Array.mk [37, 3]) 37 #[Value.slice (cutAt s_A s_c 0 1) (Int.toNat (↑s_c : Int)
 - 0) (s_c - 0), Value.int IntKind.i64 (IntKind.wrap IntKind.i64 (n - IntKind.wrap IntKind.i64 ((↑s_c : Int) - (↑s_n : Int))))]) w (Value.slice x x_1 x_2) w' ∧ ((0 : Int) ≤ (↑s_n : Int) ∧ (↑s_n : Int) ≤
 (↑x_2 : Int)) ∧ K (Value.slice (cutAt x x_2 0 1) (Int.toNat (↑s_n : Int) - 0) (x_2 - 0)) w' else K (Value.slice s_A s_n s_c) w) ∧ bif decide (n < (0 : Int)) then False else J w
theorem slices_Grow_int_int.calls (ok : Okay Try.prog) {s_A : Option Addr} {s_n : Nat} {s_c : Nat} {n : Int} {w : World} {K : Value → World → Prop} (h : slices_Grow_int_int.W s_A s_n s_c n w K) : CallsV Try.prog 146 #[.slice s_A s_n s_c, .int .i64 n] w K :=
  fnW_calls ok Try.func146 (an := (.named (.seq .auto (.join [] .auto .auto)))) (args := [.slice s_A s_n s_c, .int .i64 n]) (Eq.mp (by kernel_rfl) h)
noncomputable def slices_AppendSeq_int_int.W : Option Addr → Nat → Nat → Value → World → (Value → World → Prop) → Prop := fun (s_A : Option Addr) (s_n s_c : Nat) (seq : Value) (w : World) (K : Value →
 World → Prop) => ∀ (g : Nat) (w' : World), Fresh w g w' [Value.slice s_A s_n s_c] 37 → False
theorem slices_AppendSeq_int_int.calls (ok : Okay Try.prog) {s_A : Option Addr} {s_n : Nat} {s_c : Nat} {seq : Value} {w : World} {K : Value → World → Prop} (h : slices_AppendSeq_int_int.W s_A s_n s_c seq w K) : CallsV Try.prog 132 #[.slice s_A s_n s_c, seq] w K :=
  fnW_calls ok Try.func132 (an := (.named .auto)) (args := [.slice s_A s_n s_c, seq]) (Eq.mp (by kernel_rfl) h)
noncomputable def slices_Collect_int.W : Value → World → (Value → World → Prop) → Prop := fun (seq : Value) (w : World) (K : Value → World → Prop) => CallsV Try.prog 132 #[Value.slice none 0 0,
 seq] w fun (v : Value) (w' : World) => ∃ (x : Option Addr) (x_1 x_2 : Nat), v = Value.slice x x_1 x_2 ∧ K (Value.slice x x_1 x_2) w'
theorem slices_Collect_int.calls (ok : Okay Try.prog) {seq : Value} {w : World} {K : Value → World → Prop} (h : slices_Collect_int.W seq w K) : CallsV Try.prog 115 #[seq] w K :=
  fnW_calls ok Try.func115 (an := (.named .auto)) (args := [seq]) (Eq.mp (by kernel_rfl) h)
end Go.Proofs.Ythfagbfllheneaa
set_option linter.unusedVariables false
set_option maxRecDepth 100000
namespace Go.Proofs.Ythfagbfllheneaa
open Go Go.Sx
noncomputable def slices_BinarySearchFunc_byte_byte_byte.W : Option Addr → Nat → Nat → Option Addr → Nat → Nat → Value → World → (Value → World → Prop) → Prop := fun (x_A : Option Addr) (x_n x_c : Nat)
 (target_A : Option Addr) (target_n target_c : Nat) (cmp : Value) (w : World) (K : Value → World → Prop) => ∃ (I : Int → Int → World → Prop) (μ : Int → Int → World → Nat), I (0 : Int) (↑x_n : Int) w ∧ ∀
 (x x_1 : Int) (w : World), I x x_1 w → bif decide (x < x_1) then (0 : Int) ≤ (1 : Int) ∧ ∃ (ad : Addr), x_A = some ad ∧ ((0 : Int) ≤ IntKind.wrap IntKind.i64 (Int.fdiv (IntKind.wrap
 IntKind.u64 (IntKind.wrap IntKind.i64 (x + x_1))) ((2 : Int) ^ Min.min (Int.toNat (1 : Int)) 64)) ∧ IntKind.wrap IntKind.i64 (Int.fdiv (IntKind.wrap IntKind.u64 (IntKind.wrap IntKind.i64 (x + x_1)))
 ((2 : Int) ^ Min.min (Int.toNat (1 : Int)) 64)) < (↑x_n : Int)) ∧ ∃ (x_2 : Option Addr) (x_3 x_4 : Nat), World.cell? w (Addr.add ad (Int.toNat (IntKind.wrap IntKind.i64 (Int.fdiv (IntKind.wrap
 IntKind.u64 (IntKind.wrap IntKind.i64 (x + x_1))) ((2 : Int) ^ Min.min (Int.toNat (1 : Int)) 64))) * 1)) = some (Value.slice x_2 x_3 x_4) ∧ ∃ (fid : Nat) (first captured : Array Value), cmp =
 Value.func (Fn.func fid) first captured ∧ bodied Try.prog fid = true ∧ CallsV Try.prog fid (List.toArray (Array.toList first ++ ([Value.slice x_2 x_3 x_4, Value.slice target_A target_n target_c]
 ++ Array.toList captured))) w fun (r : Value) (w' : World) => ∃ (x_5 : Int), r = Value.int IntKind.i64 x_5 ∧ bif decide (x_5 < (0 : Int)) then I (IntKind.wrap IntKind.i64 (IntKind.wrap
 IntKind.i64 (Int.fdiv (IntKind.wrap IntKind.u64 (IntKind.wrap IntKind.i64 (x + x_1))) ((2 : Int) ^ Min.min (Int.toNat (1 : Int)) 64)) + (1 : Int))) x_1 w' ∧ μ (IntKind.wrap IntKind.i64 (IntKind.wrap
 IntKind.i64 (Int.fdiv (IntKind.wrap IntKind.u64 (IntKind.wrap IntKind.i64 (x + x_1))) ((2 : Int) ^ Min.min (Int.toNat (1 : Int)) 64)) + (1 : Int))) x_1 w' < μ x x_1 w else I x (IntKind.wrap IntKind.i64
 (Int.fdiv (IntKind.wrap IntKind.u64 (IntKind.wrap IntKind.i64 (x + x_1))) ((2 : Int) ^ Min.min (Int.toNat (1 : Int)) 64))) w' ∧ μ x (IntKind.wrap IntKind.i64 (Int.fdiv (IntKind.wrap IntKind.u64
 (IntKind.wrap IntKind.i64 (x + x_1))) ((2 : Int) ^ Min.min (Int.toNat (1 : Int)) 64))) w' < μ x x_1 w else bif decide (x < (↑x_n : Int)) then ∃ (ad : Addr), x_A = some ad ∧ ((0 : Int)
 ≤ x ∧ x < (↑x_n : Int)) ∧ ∃ (x_2 : Option Addr) (x_3 x_4 : Nat), World.cell? w (Addr.add ad (Int.toNat x * 1)) = some (Value.slice x_2 x_3 x_4) ∧ ∃ (fid : Nat) (first captured : Array Value),
 cmp = Value.func (Fn.func fid) first captured ∧ bodied Try.prog fid = true ∧ CallsV Try.prog fid (List.toArray (Array.toList first ++ ([Value.slice x_2 x_3 x_4, Value.slice target_A target_n
 target_c] ++ Array.toList captured))) w fun (r : Value) (w' : World) => ∃ (x_5 : Int), r = Value.int IntKind.i64 x_5 ∧ K (Value.tuple #[Value.int IntKind.i64 x, Value.bool (decide (x_5 = (0 :
 Int)))]) w' else K (Value.tuple #[Value.int IntKind.i64 x, Value.bool false]) w
theorem slices_BinarySearchFunc_byte_byte_byte.calls (ok : Okay Try.prog) {x_A : Option Addr} {x_n : Nat} {x_c : Nat} {target_A : Option Addr} {target_n : Nat} {target_c : Nat} {cmp : Value} {w : World} {K : Value → World → Prop} (h : slices_BinarySearchFunc_byte_byte_byte.W x_A x_n x_c target_A target_n target_c cmp w K) : CallsV Try.prog 110 #[.slice x_A x_n x_c, .slice target_A target_n target_c, cmp] w K :=
  fnW_calls ok Try.func110 (an := (.named (.named (.seq .auto (.seq .auto (.seq .auto (.seq (.block (.loop [(9, .one (.int .i64)), (10, .one (.int .i64))] .auto)) .auto))))))) (args := [.slice x_A x_n x_c, .slice target_A target_n target_c, cmp]) (Eq.mp (by kernel_rfl) h)
noncomputable def tree_Arena_all_1.W : Value → Addr → Addr → World → (Value → World → Prop) → Prop := fun (yield : Value) (a1 a2 : Addr) (w : World) (K : Value → World → Prop) => ∃ (x : Int),
 World.cell? w a1 = some (Value.int IntKind.i64 x) ∧ ∀ (g : Nat) (w' : World), Fresh w g w' [Value.int IntKind.i64 x] 3 → ∃ (I : Option Addr → Nat → Nat → World → Prop) (μ : Option Addr → Nat →
 Nat → World → Nat), I (some (Addr.mk g 0 none)) 1 1 w' ∧ ∀ (x : Option Addr) (x_1 x_2 : Nat) (w : World), I x x_1 x_2 w → bif decide ((0 : Int) < (↑x_1 : Int)) then ∃ (ad :
 Addr), x = some ad ∧ ((0 : Int) ≤ IntKind.wrap IntKind.i64 ((↑x_1 : Int) - (1 : Int)) ∧ IntKind.wrap IntKind.i64 ((↑x_1 : Int) - (1 : Int)) < (↑x_1 : Int)) ∧ ∃ (x_3 : Int), World.cell? w
 (Addr.add ad (Int.toNat (IntKind.wrap IntKind.i64 ((↑x_1 : Int) - (1 : Int))) * 1)) = some (Value.int IntKind.i64 x_3) ∧ ((0 : Int) ≤ IntKind.wrap IntKind.i64 ((↑x_1 : Int) - (1 : Int)) ∧
 IntKind.wrap IntKind.i64 ((↑x_1 : Int) - (1 : Int)) ≤ (↑x_2 : Int)) ∧ ∃ (S : World → Prop), S (World.drew w) ∧ ∃ (x_4 : Option Addr), (∀ (u : World), S u → World.cell? u a2 = some (Value.pointer
 x_4)) ∧ ∃ (a : Addr), x_4 = some a ∧ ∃ (x_5 : Option Addr) (x_6 x_7 : Nat), (∀ (u : World), S u → World.cell? u (Addr.add a 2) = some (Value.slice x_5 x_6 x_7)) ∧ ∃ (ad : Addr), x_5 =
 some ad ∧ ((0 : Int) ≤ x_3 ∧ x_3 < (↑x_6 : Int)) ∧ ∃ (x_8 : Option Addr), (∀ (u : World), S u → World.cell? u (Addr.add ad (Int.toNat x_3 * 1)) = some (Value.pointer x_8)) ∧ ∃ (a : Addr),
 x_8 = some a ∧ ∃ (x_9 : Option Addr) (x_10 x_11 : Nat), (∀ (u : World), S u → World.cell? u (Addr.add a 2) = some (Value.slice x_9 x_10 x_11)) ∧ ∃ (x_12 : Option Addr) (x_13 x_14 : Nat)
 (w' : World), RunsTo Try.prog (Builtin.append_ (Array.mk [37, 37]) 37 #[Value.slice (cutAt x x_2 0 1) (Int.toNat (IntKind.wrap IntKind.i64 ((↑x_1 : Int) - (1 : Int))) - 0) (x_2 - 0), Value.slice x_9
 x_10 x_11]) (World.drew w) (Value.slice x_12 x_13 x_14) w' ∧ S w' ∧ ∃ (fid : Nat) (first captured : Array Value), yield = Value.func (Fn.func fid) first captured ∧ bodied Try.prog fid = true ∧
 CallsV Try.prog fid (List.toArray (Array.toList first ++ ([Value.int IntKind.i64 x_3] ++ Array.toList captured))) w' fun (r : Value) (w' : World) => ∃ (x_15 : Bool), r = Value.bool x_15 ∧ bif !x_15
 then K (Value.tuple #[]) w' else I x_12 x_13 x_14 w' ∧ μ x_12 x_13 x_14 w' < μ x x_1 x_2 w else K (Value.tuple #[]) w
theorem tree_Arena_all_1.calls (ok : Okay Try.prog) {yield : Value} {a1 : Addr} {a2 : Addr} {w : World} {K : Value → World → Prop} (h : tree_Arena_all_1.W yield a1 a2 w K) : CallsV Try.prog 133 #[yield, .pointer (some a1), .pointer (some a2)] w K :=
  fnW_calls ok Try.func133 (an := (.named (.named (.seq .auto (.block (.loop [(4, .one .slc)] .auto)))))) (args := [yield, .pointer (some a1), .pointer (some a2)]) (Eq.mp (by kernel_rfl) h)
end Go.Proofs.Ythfagbfllheneaa
set_option linter.unusedVariables false
set_option maxRecDepth 100000
namespace Go.Proofs.Ythfagbfllheneaa
open Go Go.Sx
noncomputable def tree_New.W : Int → Int → World → (Value → World → Prop) → Prop := fun (fan most : Int) (w : World) (K : Value → World → Prop) => bif decide (fan < (4 : Int)) then K
 (Value.tuple #[Value.pointer none, Value.int IntKind.i64 (2 : Int)]) w else bif decide ((64 : Int) < fan) then K (Value.tuple #[Value.pointer none, Value.int IntKind.i64 (2 :
 Int)]) w else bif decide (most < (1 : Int)) then K (Value.tuple #[Value.pointer none, Value.int IntKind.i64 (2 : Int)]) w else bif decide ((65536 : Int) < most) then K
 (Value.tuple #[Value.pointer none, Value.int IntKind.i64 (2 : Int)]) w else ∃ (x : Option Nat) (w' : World), RunsTo Try.prog (Instr.makeMap 145 none) w (Value.map x) w' ∧ ∀ (g : Nat)
 (w'_1 : World), Fresh w' g w'_1 [Value.int IntKind.i64 fan, Value.int IntKind.i64 most, Value.slice none 0 0, Value.slice none 0 0, Value.map x, Value.int IntKind.i64 (0 : Int)] 148 → K
 (Value.tuple #[Value.pointer (some (Addr.mk g 0 none)), Value.int IntKind.i64 (0 : Int)]) w'_1
theorem tree_New.calls (ok : Okay Try.prog) {fan : Int} {most : Int} {w : World} {K : Value → World → Prop} (h : tree_New.W fan most w K) : CallsV Try.prog 69 #[.int .i64 fan, .int .i64 most] w K :=
  fnW_calls ok Try.func69 (an := (.named .auto)) (args := [.int .i64 fan, .int .i64 most]) (Eq.mp (by kernel_rfl) h)
noncomputable def tree_Arena_Create.W : Option Addr → World → (Value → World → Prop) → Prop := fun (a : Option Addr) (w : World) (K : Value → World → Prop) => CallsV Try.prog 104 #[Value.pointer a] w
 fun (v : Value) (w' : World) => ∃ (x : Bool), v = Value.bool x ∧ bif !x then K (Value.tuple #[Value.int IntKind.i64 (0 : Int), Value.int IntKind.i64 (1 : Int)]) w' else ∃ (a_1 : Addr), a = some
 a_1 ∧ ∃ (S : World → Prop), S (World.drew w') ∧ ∃ (x : Option Nat), (∀ (u : World), S u → World.cell? u (Addr.add a_1 4) = some (Value.map x)) ∧ ∃ (x_1 : Int) (w'_1 : World), RunsTo Try.prog
 (Builtin.len_ (Array.mk [145]) 3 #[Value.map x]) (World.drew w') (Value.int IntKind.i64 x_1) w'_1 ∧ bif decide ((1000 : Int) ≤ x_1) then K (Value.tuple #[Value.int IntKind.i64 (0 : Int),
 Value.int IntKind.i64 (5 : Int)]) w'_1 else ∃ (a_2 : Addr), a = some a_2 ∧ ∃ (S : World → Prop), S w'_1 ∧ ∃ (x : Int), (∀ (u : World), S u → World.cell? u (Addr.add a_2 1) = some
 (Value.int IntKind.i64 x)) ∧ CallsV Try.prog 86 #[Value.pointer a] w'_1 fun (v : Value) (w' : World) => ∃ (x_2 : Int), v = Value.int IntKind.i64 x_2 ∧ S w' ∧ bif decide (x ≤ x_2) then K
 (Value.tuple #[Value.int IntKind.i64 (0 : Int), Value.int IntKind.i64 (5 : Int)]) w' else ∃ (a_3 : Addr), a = some a_3 ∧ ∃ (x : Int), World.cell? w' (Addr.add a_3 5) = some (Value.int
 IntKind.i64 x) ∧ ∃ (a_4 : Addr), a = some a_4 ∧ stOK (Addr.add a_4 5) 0 [Value.int IntKind.i64 (IntKind.wrap IntKind.i64 (x + (1 : Int)))] w' ∧ ∀ (w'_2 : World), w'_2 = setAll (Addr.add a_4 5) 0
 [Value.int IntKind.i64 (IntKind.wrap IntKind.i64 (x + (1 : Int)))] w' → ∃ (J : World → Prop), (∀ (w : World), J w → ∃ (a_7 : Addr), a = some a_7 ∧ ∃ (x : Int), World.cell? w (Addr.add a_7 5) =
 some (Value.int IntKind.i64 x) ∧ K (Value.tuple #[Value.int IntKind.i64 x, Value.int IntKind.i64 (0 : Int)]) w) ∧ ∃ (a_6 : Addr), a = some a_6 ∧ ∃ (S : World → Prop), S (World.drew w'_2)
 ∧ ∃ (x : Option Nat), (∀ (u : World), S u → World.cell? u (Addr.add a_6 4) = some (Value.map x)) ∧ ∃ (a_7 : Addr), a = some a_7 ∧ ∃ (x_3 : Int), (∀ (u : World), S u → World.cell? u
 (Addr.add a_7 5) = some (Value.int IntKind.i64 x_3)) ∧ ∀ (g : Nat) (w' : World), Fresh (World.drew w'_2) g w' [Value.slice none 0 0, Value.slice none 0 0, Value.slice none 0
 0] 157 → S w' ∧ CallsV Try.prog 107 #[Value.pointer a, Value.pointer (some (Addr.mk g 0 none))] w' fun (v : Value) (w' : World) => ∃ (x_4 : Int), v = Value.int IntKind.i64 x_4 ∧ S w' ∧ ∃
 (w'_3 : World), RunsTo Try.prog (Instr.mapUpdate 145 (Value.map x) (Value.int IntKind.i64 x_3) (Value.int IntKind.i64 x_4)) w' () w'_3 ∧ J w'_3
theorem tree_Arena_Create.calls (ok : Okay Try.prog) {a : Option Addr} {w : World} {K : Value → World → Prop} (h : tree_Arena_Create.W a w K) : CallsV Try.prog 77 #[.pointer a] w K :=
  fnW_calls ok Try.func77 (an := (.named (.seq .auto (.seq .auto (.seq .auto (.join [] .auto .auto)))))) (args := [.pointer a]) (Eq.mp (by kernel_rfl) h)
noncomputable def tree_Arena_Nodes.W : Option Addr → World → (Value → World → Prop) → Prop := fun (a : Option Addr) (w : World) (K : Value → World → Prop) => bif Option.isNone a then K (Value.int
 IntKind.i64 (0 : Int)) w else ∃ (a_1 : Addr), a = some a_1 ∧ ∃ (S : World → Prop), S (World.drew w) ∧ ∃ (x : Option Addr) (x_1 x_2 : Nat), (∀ (u : World), S u → World.cell? u (Addr.add a_1 2) =
 some (Value.slice x x_1 x_2)) ∧ ∃ (a_2 : Addr), a = some a_2 ∧ ∃ (x : Option Addr) (x_3 x_4 : Nat), (∀ (u : World), S u → World.cell? u (Addr.add a_2 3) = some (Value.slice x x_3
 x_4)) ∧ K (Value.int IntKind.i64 (IntKind.wrap IntKind.i64 ((↑x_1 : Int) - (↑x_3 : Int)))) (World.drew w)
theorem tree_Arena_Nodes.calls (ok : Okay Try.prog) {a : Option Addr} {w : World} {K : Value → World → Prop} (h : tree_Arena_Nodes.W a w K) : CallsV Try.prog 86 #[.pointer a] w K :=
  fnW_calls ok Try.func86 (an := (.named .auto)) (args := [.pointer a]) (Eq.mp (by kernel_rfl) h)
noncomputable def tree_Arena_Put.W : Option Addr → Int → Option Addr → Nat → Nat → Option Addr → Nat → Nat → World → (Value → World → Prop) → Prop := fun (a : Option Addr) (root : Int) (key_A : Option
 Addr) (key_n key_c : Nat) (val_A : Option Addr) (val_n val_c : Nat) (w : World) (K : Value → World → Prop) => CallsV Try.prog 108 #[Value.pointer a, Value.int IntKind.i64 root] w fun (v : Value) (w' :
 World) => ∃ (x x_1 : Int), v = Value.tuple #[Value.int IntKind.i64 x, Value.int IntKind.i64 x_1] ∧ bif !decide (x_1 = (0 : Int)) then K (Value.tuple #[Value.bool false, Value.int
 IntKind.i64 x_1]) w' else bif decide ((1048576 : Int) < (↑key_n : Int)) then K (Value.tuple #[Value.bool false, Value.int IntKind.i64 (3 : Int)]) w' else bif decide ((1048576 :
 Int) < (↑val_n : Int)) then K (Value.tuple #[Value.bool false, Value.int IntKind.i64 (3 : Int)]) w' else CallsV Try.prog 109 #[Value.pointer a, Value.int IntKind.i64 x, Value.slice key_A key_n
 key_c] w' fun (v : Value) (w' : World) => ∃ (x_2 x_3 : Option Addr) (x_4 x_5 : Nat), v = Value.tuple #[Value.pointer x_2, Value.slice x_3 x_4 x_5] ∧ ∃ (a_1 : Addr), x_2 = some a_1 ∧ ∃ (x_6 :
 Option Addr) (x_7 x_8 : Nat), World.cell? w' (Addr.add a_1 0) = some (Value.slice x_6 x_7 x_8) ∧ CallsV Try.prog 110 #[Value.slice x_6 x_7 x_8, Value.slice key_A key_n key_c, Value.func (Fn.func
 111) #[] #[]] w' fun (v : Value) (w' : World) => ∃ (x_9 : Int) (x_10 : Bool), v = Value.tuple #[Value.int IntKind.i64 x_9, Value.bool x_10] ∧ ∃ (J : World → Prop), (∀ (w : World), J w → CallsV Try.prog
 114 #[Value.slice key_A key_n key_c] w fun (v : Value) (w' : World) => ∃ (x_11 : Option Addr) (x_12 x_13 : Nat), v = Value.slice x_11 x_12 x_13 ∧ CallsV Try.prog 114 #[Value.slice val_A val_n val_c] w'
 fun (v : Value) (w' : World) => ∃ (x_14 : Option Addr) (x_15 x_16 : Nat), v = Value.slice x_14 x_15 x_16 ∧ CallsV Try.prog 113 #[Value.pointer a, Value.int IntKind.i64 x, Value.slice x_11 x_12 x_13,
 Value.slice x_14 x_15 x_16] w' fun (v : Value) (w' : World) => ∃ (x_17 : Option Addr) (x_18 x_19 : Nat) (x_20 : Int) (x_21 : Bool), v = Value.tuple #[Value.slice x_17 x_18 x_19, Value.int IntKind.i64
 x_20, Value.bool x_21] ∧ bif x_21 then ∃ (a_3 : Addr), a = some a_3 ∧ ∃ (x_22 : Option Addr) (x_23 x_24 : Nat), World.cell? w' (Addr.add a_3 2) = some (Value.slice x_22 x_23 x_24) ∧ ∃ (ad
 : Addr), x_22 = some ad ∧ ((0 : Int) ≤ x ∧ x < (↑x_23 : Int)) ∧ ∃ (x_25 : Option Addr), World.cell? w' (Addr.add ad (Int.toNat x * 1)) = some (Value.pointer x_25) ∧ CallsV Try.prog 107
 #[Value.pointer a, Value.pointer x_25] w' fun (v : Value) (w' : World) => ∃ (x_26 : Int), v = Value.int IntKind.i64 x_26 ∧ ∃ (a_4 : Addr), a = some a_4 ∧ ∃ (x_27 : Option Addr) (x_28 x_29 :
 Nat), World.cell? w' (Addr.add a_4 2) = some (Value.slice x_27 x_28 x_29) ∧ ∀ (g : Nat) (w'_1 : World), Fresh w' g w'_1 [Value.slice x_17 x_18 x_19] 28 → ∀ (g_1 : Nat) (w' : World), Fresh w'_1
 g_1 w' [Value.int IntKind.i64 x_26, Value.int IntKind.i64 x_20] 3 → ∀ (g_2 : Nat) (w'_2 : World), Fresh w' g_2 w'_2 [Value.slice (some (Addr.mk g 0 none)) 1 1, Value.slice none 0
 0, Value.slice (some (Addr.mk g_1 0 none)) 2 2] 157 → ∃ (ad : Addr), x_27 = some ad ∧ ((0 : Int) ≤ x ∧ x < (↑x_28 : Int)) ∧ stOK (Addr.add ad (Int.toNat x * 1)) 0 [Value.pointer
 (some (Addr.mk g_2 0 none))] w'_2 ∧ ∀ (w' : World), w' = setAll (Addr.add ad (Int.toNat x * 1)) 0 [Value.pointer (some (Addr.mk g_2 0 none))] w'_2 → K (Value.tuple
 #[Value.bool x_10, Value.int IntKind.i64 (0 : Int)]) w' else K (Value.tuple #[Value.bool x_10, Value.int IntKind.i64 (0 : Int)]) w') ∧ bif !x_10 then ∃ (a_2 : Addr), a = some a_2 ∧ ∃ (S : World
 → Prop), S (World.drew w') ∧ ∃ (x : Int), (∀ (u : World), S u → World.cell? u (Addr.add a_2 1) = some (Value.int IntKind.i64 x)) ∧ CallsV Try.prog 86 #[Value.pointer a] (World.drew w') fun (v :
 Value) (w' : World) => ∃ (x_11 : Int), v = Value.int IntKind.i64 x_11 ∧ S w' ∧ CallsV Try.prog 112 #[Value.pointer a, Value.slice x_3 x_4 x_5] w' fun (v : Value) (w' : World) => ∃ (x_12 : Int), v =
 Value.int IntKind.i64 x_12 ∧ S w' ∧ bif decide (x < IntKind.wrap IntKind.i64 (x_11 + x_12)) then K (Value.tuple #[Value.bool false, Value.int IntKind.i64 (5 : Int)]) w' else J w' else J
 (World.drew w')
theorem tree_Arena_Put.calls (ok : Okay Try.prog) {a : Option Addr} {root : Int} {key_A : Option Addr} {key_n : Nat} {key_c : Nat} {val_A : Option Addr} {val_n : Nat} {val_c : Nat} {w : World} {K : Value → World → Prop} (h : tree_Arena_Put.W a root key_A key_n key_c val_A val_n val_c w K) : CallsV Try.prog 78 #[.pointer a, .int .i64 root, .slice key_A key_n key_c, .slice val_A val_n val_c] w K :=
  fnW_calls ok Try.func78 (an := (.named (.seq .auto (.seq .auto (.seq .auto (.seq .auto (.seq .auto (.join [] .auto .auto)))))))) (args := [.pointer a, .int .i64 root, .slice key_A key_n key_c, .slice val_A val_n val_c]) (Eq.mp (by kernel_rfl) h)
noncomputable def tree_Arena_Get.W : Option Addr → Int → Option Addr → Nat → Nat → World → (Value → World → Prop) → Prop := fun (a : Option Addr) (root : Int) (key_A : Option Addr) (key_n key_c : Nat)
 (w : World) (K : Value → World → Prop) => CallsV Try.prog 108 #[Value.pointer a, Value.int IntKind.i64 root] w fun (v : Value) (w' : World) => ∃ (x x_1 : Int), v = Value.tuple #[Value.int IntKind.i64
 x, Value.int IntKind.i64 x_1] ∧ bif !decide (x_1 = (0 : Int)) then K (Value.tuple #[Value.slice none 0 0, Value.bool false]) w' else CallsV Try.prog 109 #[Value.pointer a,
 Value.int IntKind.i64 x, Value.slice key_A key_n key_c] w' fun (v : Value) (w' : World) => ∃ (x x_2 : Option Addr) (x_3 x_4 : Nat), v = Value.tuple #[Value.pointer x, Value.slice x_2 x_3 x_4] ∧ ∃ (a :
 Addr), x = some a ∧ ∃ (x_5 : Option Addr) (x_6 x_7 : Nat), World.cell? w' (Addr.add a 0) = some (Value.slice x_5 x_6 x_7) ∧ CallsV Try.prog 110 #[Value.slice x_5 x_6 x_7, Value.slice
 key_A key_n key_c, Value.func (Fn.func 111) #[] #[]] w' fun (v : Value) (w' : World) => ∃ (x_8 : Int) (x_9 : Bool), v = Value.tuple #[Value.int IntKind.i64 x_8, Value.bool x_9] ∧ bif !x_9 then K
 (Value.tuple #[Value.slice none 0 0, Value.bool false]) w' else ∃ (a : Addr), x = some a ∧ ∃ (x : Option Addr) (x_10 x_11 : Nat), World.cell? w' (Addr.add a 1) = some
 (Value.slice x x_10 x_11) ∧ ∃ (ad : Addr), x = some ad ∧ ((0 : Int) ≤ x_8 ∧ x_8 < (↑x_10 : Int)) ∧ ∃ (x : Option Addr) (x_12 x_13 : Nat), World.cell? w' (Addr.add ad (Int.toNat x_8 * 1)) =
 some (Value.slice x x_12 x_13) ∧ CallsV Try.prog 114 #[Value.slice x x_12 x_13] w' fun (v : Value) (w' : World) => ∃ (x : Option Addr) (x_14 x_15 : Nat), v = Value.slice x x_14 x_15 ∧ K
 (Value.tuple #[Value.slice x x_14 x_15, Value.bool true]) w'
theorem tree_Arena_Get.calls (ok : Okay Try.prog) {a : Option Addr} {root : Int} {key_A : Option Addr} {key_n : Nat} {key_c : Nat} {w : World} {K : Value → World → Prop} (h : tree_Arena_Get.W a root key_A key_n key_c w K) : CallsV Try.prog 88 #[.pointer a, .int .i64 root, .slice key_A key_n key_c] w K :=
  fnW_calls ok Try.func88 (an := (.named .auto)) (args := [.pointer a, .int .i64 root, .slice key_A key_n key_c]) (Eq.mp (by kernel_rfl) h)
noncomputable def tree_Arena_After.W : Option Addr → Int → Option Addr → Nat → Nat → Bool → World → (Value → World → Prop) → Prop := fun (a : Option Addr) (root : Int) (key_A : Option Addr) (key_n
 key_c : Nat) (atx : Bool) (w : World) (K : Value → World → Prop) => CallsV Try.prog 108 #[Value.pointer a, Value.int IntKind.i64 root] w fun (v : Value) (w' : World) => ∃ (x x_1 : Int), v = Value.tuple
 #[Value.int IntKind.i64 x, Value.int IntKind.i64 x_1] ∧ bif !decide (x_1 = (0 : Int)) then K (Value.tuple #[Value.slice none 0 0, Value.slice none 0 0, Value.bool false])
 w' else ∃ (a_1 : Addr), a = some a_1 ∧ ∃ (x_2 : Option Addr) (x_3 x_4 : Nat), World.cell? w' (Addr.add a_1 2) = some (Value.slice x_2 x_3 x_4) ∧ ∃ (ad : Addr), x_2 = some ad ∧ ((0
 : Int) ≤ x ∧ x < (↑x_3 : Int)) ∧ ∃ (x_5 : Option Addr), World.cell? w' (Addr.add ad (Int.toNat x * 1)) = some (Value.pointer x_5) ∧ ∃ (I : Option Addr → Int → World → Prop) (μ : Option Addr →
 Int → World → Nat), I x_5 (-1 : Int) w' ∧ ∀ (x : Option Addr) (x_6 : Int) (w : World), I x x_6 w → ∃ (a_3 : Addr), x = some a_3 ∧ ∃ (x_7 : Option Addr) (x_8 x_9 : Nat), World.cell? w (Addr.add
 a_3 2) = some (Value.slice x_7 x_8 x_9) ∧ bif !Option.isNone x_7 then CallsV Try.prog 121 #[Value.pointer x, Value.slice key_A key_n key_c] w fun (v : Value) (w' : World) => ∃ (x_10 : Int), v =
 Value.int IntKind.i64 x_10 ∧ ∃ (a_4 : Addr), x = some a_4 ∧ ∃ (x_11 : Option Addr) (x_12 x_13 : Nat), World.cell? w' (Addr.add a_4 2) = some (Value.slice x_11 x_12 x_13) ∧ bif
 decide (IntKind.wrap IntKind.i64 (x_10 + (1 : Int)) < (↑x_12 : Int)) then ∃ (a_5 : Addr), x = some a_5 ∧ ∃ (x_14 : Option Addr) (x_15 x_16 : Nat), World.cell? w' (Addr.add a_5 2) =
 some (Value.slice x_14 x_15 x_16) ∧ ∃ (ad : Addr), x_14 = some ad ∧ ((0 : Int) ≤ IntKind.wrap IntKind.i64 (x_10 + (1 : Int)) ∧ IntKind.wrap IntKind.i64 (x_10 + (1 : Int)) < (↑x_15 : Int))
 ∧ ∃ (x_17 : Int), World.cell? w' (Addr.add ad (Int.toNat (IntKind.wrap IntKind.i64 (x_10 + (1 : Int))) * 1)) = some (Value.int IntKind.i64 x_17) ∧ ∃ (a_6 : Addr), a = some a_6 ∧ ∃ (S :
 World → Prop), S (World.drew w') ∧ ∃ (x_18 : Option Addr) (x_19 x_20 : Nat), (∀ (u : World), S u → World.cell? u (Addr.add a_6 2) = some (Value.slice x_18 x_19 x_20)) ∧ ∃ (a : Addr), x =
 some a ∧ ∃ (x_21 : Option Addr) (x_22 x_23 : Nat), (∀ (u : World), S u → World.cell? u (Addr.add a 2) = some (Value.slice x_21 x_22 x_23)) ∧ ∃ (ad : Addr), x_21 = some ad ∧ ((0 :
 Int) ≤ x_10 ∧ x_10 < (↑x_22 : Int)) ∧ ∃ (x_24 : Int), (∀ (u : World), S u → World.cell? u (Addr.add ad (Int.toNat x_10 * 1)) = some (Value.int IntKind.i64 x_24)) ∧ ∃ (ad : Addr), x_18 =
 some ad ∧ ((0 : Int) ≤ x_24 ∧ x_24 < (↑x_19 : Int)) ∧ ∃ (x_25 : Option Addr), (∀ (u : World), S u → World.cell? u (Addr.add ad (Int.toNat x_24 * 1)) = some (Value.pointer x_25)) ∧ I x_25
 x_17 (World.drew w') ∧ μ x_25 x_17 (World.drew w') < μ x x_6 w else ∃ (a_5 : Addr), a = some a_5 ∧ ∃ (S : World → Prop), S (World.drew w') ∧ ∃ (x_14 : Option Addr) (x_15 x_16 : Nat), (∀ (u :
 World), S u → World.cell? u (Addr.add a_5 2) = some (Value.slice x_14 x_15 x_16)) ∧ ∃ (a : Addr), x = some a ∧ ∃ (x_17 : Option Addr) (x_18 x_19 : Nat), (∀ (u : World), S u → World.cell?
 u (Addr.add a 2) = some (Value.slice x_17 x_18 x_19)) ∧ ∃ (ad : Addr), x_17 = some ad ∧ ((0 : Int) ≤ x_10 ∧ x_10 < (↑x_18 : Int)) ∧ ∃ (x_20 : Int), (∀ (u : World), S u → World.cell? u
 (Addr.add ad (Int.toNat x_10 * 1)) = some (Value.int IntKind.i64 x_20)) ∧ ∃ (ad : Addr), x_14 = some ad ∧ ((0 : Int) ≤ x_20 ∧ x_20 < (↑x_15 : Int)) ∧ ∃ (x_21 : Option Addr), (∀ (u :
 World), S u → World.cell? u (Addr.add ad (Int.toNat x_20 * 1)) = some (Value.pointer x_21)) ∧ I x_21 x_6 (World.drew w') ∧ μ x_21 x_6 (World.drew w') < μ x x_6 w else ∃ (a_4 : Addr), x =
 some a_4 ∧ ∃ (x_10 : Option Addr) (x_11 x_12 : Nat), World.cell? w (Addr.add a_4 0) = some (Value.slice x_10 x_11 x_12) ∧ CallsV Try.prog 110 #[Value.slice x_10 x_11 x_12, Value.slice
 key_A key_n key_c, Value.func (Fn.func 111) #[] #[]] w fun (v : Value) (w' : World) => ∃ (x_13 : Int) (x_14 : Bool), v = Value.tuple #[Value.int IntKind.i64 x_13, Value.bool x_14] ∧ ∃ (J : Int → World
 → Prop), (∀ (x_15 : Int) (w : World), J x_15 w → ∃ (a_6 : Addr), x = some a_6 ∧ ∃ (x_16 : Option Addr) (x_17 x_18 : Nat), World.cell? w (Addr.add a_6 0) = some (Value.slice x_16 x_17
 x_18) ∧ bif decide (x_15 < (↑x_17 : Int)) then CallsV Try.prog 122 #[Value.pointer x, Value.int IntKind.i64 x_15] w fun (v : Value) (w' : World) => ∃ (x : Option Addr) (x_19 x_20 : Nat) (x_21
 : Option Addr) (x_22 x_23 : Nat) (x_24 : Bool), v = Value.tuple #[Value.slice x x_19 x_20, Value.slice x_21 x_22 x_23, Value.bool x_24] ∧ K (Value.tuple #[Value.slice x x_19 x_20, Value.slice x_21 x_22
 x_23, Value.bool x_24]) w' else bif decide (x_6 < (0 : Int)) then CallsV Try.prog 122 #[Value.pointer x, Value.int IntKind.i64 x_15] w fun (v : Value) (w' : World) => ∃ (x : Option Addr)
 (x_19 x_20 : Nat) (x_21 : Option Addr) (x_22 x_23 : Nat) (x_24 : Bool), v = Value.tuple #[Value.slice x x_19 x_20, Value.slice x_21 x_22 x_23, Value.bool x_24] ∧ K (Value.tuple #[Value.slice x x_19
 x_20, Value.slice x_21 x_22 x_23, Value.bool x_24]) w' else ∃ (a_7 : Addr), a = some a_7 ∧ ∃ (x : Option Addr) (x_19 x_20 : Nat), World.cell? w (Addr.add a_7 2) = some (Value.slice x x_19
 x_20) ∧ ∃ (ad : Addr), x = some ad ∧ ((0 : Int) ≤ x_6 ∧ x_6 < (↑x_19 : Int)) ∧ ∃ (x : Option Addr), World.cell? w (Addr.add ad (Int.toNat x_6 * 1)) = some (Value.pointer x) ∧ ∃ (I :
 Option Addr → World → Prop) (μ : Option Addr → World → Nat), I x w ∧ ∀ (x : Option Addr) (w : World), I x w → ∃ (a_9 : Addr), x = some a_9 ∧ ∃ (x_21 : Option Addr) (x_22 x_23 : Nat), World.cell?
 w (Addr.add a_9 2) = some (Value.slice x_21 x_22 x_23) ∧ bif !Option.isNone x_21 then ∃ (a_10 : Addr), a = some a_10 ∧ ∃ (S : World → Prop), S (World.drew w) ∧ ∃ (x_24 : Option Addr)
 (x_25 x_26 : Nat), (∀ (u : World), S u → World.cell? u (Addr.add a_10 2) = some (Value.slice x_24 x_25 x_26)) ∧ ∃ (a : Addr), x = some a ∧ ∃ (x_27 : Option Addr) (x_28 x_29 : Nat), (∀ (u
 : World), S u → World.cell? u (Addr.add a 2) = some (Value.slice x_27 x_28 x_29)) ∧ ∃ (ad : Addr), x_27 = some ad ∧ ((0 : Int) ≤ (0 : Int) ∧ (0 : Int) < (↑x_28 : Int)) ∧ ∃ (x_30 : Int),
 (∀ (u : World), S u → World.cell? u (Addr.add ad (Int.toNat (0 : Int) * 1)) = some (Value.int IntKind.i64 x_30)) ∧ ∃ (ad : Addr), x_24 = some ad ∧ ((0 : Int) ≤ x_30 ∧ x_30 < (↑x_25 :
 Int)) ∧ ∃ (x_31 : Option Addr), (∀ (u : World), S u → World.cell? u (Addr.add ad (Int.toNat x_30 * 1)) = some (Value.pointer x_31)) ∧ I x_31 (World.drew w) ∧ μ x_31 (World.drew w) < μ x w else
 CallsV Try.prog 122 #[Value.pointer x, Value.int IntKind.i64 (0 : Int)] w fun (v : Value) (w' : World) => ∃ (x : Option Addr) (x_24 x_25 : Nat) (x_26 : Option Addr) (x_27 x_28 : Nat) (x_29 : Bool), v =
 Value.tuple #[Value.slice x x_24 x_25, Value.slice x_26 x_27 x_28, Value.bool x_29] ∧ K (Value.tuple #[Value.slice x x_24 x_25, Value.slice x_26 x_27 x_28, Value.bool x_29]) w') ∧ bif x_14 then bif
 !atx then J (IntKind.wrap IntKind.i64 (x_13 + (1 : Int))) w' else J x_13 w' else J x_13 w'
theorem tree_Arena_After.calls (ok : Okay Try.prog) {a : Option Addr} {root : Int} {key_A : Option Addr} {key_n : Nat} {key_c : Nat} {atx : Bool} {w : World} {K : Value → World → Prop} (h : tree_Arena_After.W a root key_A key_n key_c atx w K) : CallsV Try.prog 89 #[.pointer a, .int .i64 root, .slice key_A key_n key_c, .bool atx] w K :=
  fnW_calls ok Try.func89 (an := (.named (.seq .auto (.seq .auto (.seq .auto (.seq .auto (.seq .auto (.seq (.block (.loop [(13, .one .ptr), (14, .one (.int .i64))] .auto)) (.seq .auto (.join [(16, .one (.int .i64))] .auto (.seq .auto (.seq (.seq .auto (.block (.loop [(13, .one .ptr)] .auto))) .auto)))))))))))) (args := [.pointer a, .int .i64 root, .slice key_A key_n key_c, .bool atx]) (Eq.mp (by kernel_rfl) h)
noncomputable def tree_Arena_Last.W : Option Addr → Int → World → (Value → World → Prop) → Prop := fun (a : Option Addr) (root : Int) (w : World) (K : Value → World → Prop) => CallsV Try.prog 108
 #[Value.pointer a, Value.int IntKind.i64 root] w fun (v : Value) (w' : World) => ∃ (x x_1 : Int), v = Value.tuple #[Value.int IntKind.i64 x, Value.int IntKind.i64 x_1] ∧ bif !decide (x_1 = (0
 : Int)) then K (Value.tuple #[Value.slice none 0 0, Value.slice none 0 0, Value.bool false]) w' else CallsV Try.prog 123 #[Value.pointer a, Value.int IntKind.i64 x] w' fun (v :
 Value) (w' : World) => ∃ (x : Option Addr), v = Value.pointer x ∧ ∃ (a : Addr), x = some a ∧ ∃ (x_2 : Option Addr) (x_3 x_4 : Nat), World.cell? w' (Addr.add a 0) = some (Value.slice x_2
 x_3 x_4) ∧ CallsV Try.prog 122 #[Value.pointer x, Value.int IntKind.i64 (IntKind.wrap IntKind.i64 ((↑x_3 : Int) - (1 : Int)))] w' fun (v : Value) (w' : World) => ∃ (x : Option Addr) (x_5 x_6 : Nat)
 (x_7 : Option Addr) (x_8 x_9 : Nat) (x_10 : Bool), v = Value.tuple #[Value.slice x x_5 x_6, Value.slice x_7 x_8 x_9, Value.bool x_10] ∧ K (Value.tuple #[Value.slice x x_5 x_6, Value.slice x_7 x_8 x_9,
 Value.bool x_10]) w'
theorem tree_Arena_Last.calls (ok : Okay Try.prog) {a : Option Addr} {root : Int} {w : World} {K : Value → World → Prop} (h : tree_Arena_Last.W a root w K) : CallsV Try.prog 91 #[.pointer a, .int .i64 root] w K :=
  fnW_calls ok Try.func91 (an := (.named .auto)) (args := [.pointer a, .int .i64 root]) (Eq.mp (by kernel_rfl) h)
noncomputable def tree_Arena_Delete.W : Option Addr → Int → Option Addr → Nat → Nat → World → (Value → World → Prop) → Prop := fun (a : Option Addr) (root : Int) (key_A : Option Addr) (key_n key_c :
 Nat) (w : World) (K : Value → World → Prop) => CallsV Try.prog 108 #[Value.pointer a, Value.int IntKind.i64 root] w fun (v : Value) (w' : World) => ∃ (x x_1 : Int), v = Value.tuple #[Value.int
 IntKind.i64 x, Value.int IntKind.i64 x_1] ∧ bif !decide (x_1 = (0 : Int)) then K (Value.tuple #[Value.bool false, Value.int IntKind.i64 x_1]) w' else CallsV Try.prog 109 #[Value.pointer
 a, Value.int IntKind.i64 x, Value.slice key_A key_n key_c] w' fun (v : Value) (w' : World) => ∃ (x_2 x_3 : Option Addr) (x_4 x_5 : Nat), v = Value.tuple #[Value.pointer x_2, Value.slice x_3 x_4 x_5] ∧
 ∃ (a_1 : Addr), x_2 = some a_1 ∧ ∃ (x_6 : Option Addr) (x_7 x_8 : Nat), World.cell? w' (Addr.add a_1 0) = some (Value.slice x_6 x_7 x_8) ∧ CallsV Try.prog 110 #[Value.slice x_6 x_7 x_8,
 Value.slice key_A key_n key_c, Value.func (Fn.func 111) #[] #[]] w' fun (v : Value) (w' : World) => ∃ (x_9 : Int) (x_10 : Bool), v = Value.tuple #[Value.int IntKind.i64 x_9, Value.bool x_10] ∧ bif
 !x_10 then K (Value.tuple #[Value.bool false, Value.int IntKind.i64 (0 : Int)]) w' else CallsV Try.prog 120 #[Value.pointer a, Value.int IntKind.i64 x, Value.slice key_A key_n key_c] w' fun (v :
 Value) (w' : World) => v = Value.tuple #[] ∧ ∃ (a_2 : Addr), a = some a_2 ∧ ∃ (x_11 : Option Addr) (x_12 x_13 : Nat), World.cell? w' (Addr.add a_2 2) = some (Value.slice x_11 x_12 x_13) ∧
 ∃ (ad : Addr), x_11 = some ad ∧ ((0 : Int) ≤ x ∧ x < (↑x_12 : Int)) ∧ ∃ (x_14 : Option Addr), World.cell? w' (Addr.add ad (Int.toNat x * 1)) = some (Value.pointer x_14) ∧ ∃ (a_3 : Addr),
 x_14 = some a_3 ∧ ∃ (x_15 : Option Addr) (x_16 x_17 : Nat), World.cell? w' (Addr.add a_3 2) = some (Value.slice x_15 x_16 x_17) ∧ bif decide ((↑x_16 : Int) = (1 : Int)) then ∃
 (a_4 : Addr), a = some a_4 ∧ ∃ (S : World → Prop), S (World.drew w') ∧ ∃ (x_18 : Option Addr) (x_19 x_20 : Nat), (∀ (u : World), S u → World.cell? u (Addr.add a_4 2) = some (Value.slice
 x_18 x_19 x_20)) ∧ ∃ (a_5 : Addr), a = some a_5 ∧ ∃ (x_21 : Option Addr) (x_22 x_23 : Nat), (∀ (u : World), S u → World.cell? u (Addr.add a_5 2) = some (Value.slice x_21 x_22 x_23)) ∧ ∃
 (a_6 : Addr), x_14 = some a_6 ∧ ∃ (x_24 : Option Addr) (x_25 x_26 : Nat), (∀ (u : World), S u → World.cell? u (Addr.add a_6 2) = some (Value.slice x_24 x_25 x_26)) ∧ ∃ (ad : Addr), x_24 =
 some ad ∧ ((0 : Int) ≤ (0 : Int) ∧ (0 : Int) < (↑x_25 : Int)) ∧ ∃ (x_27 : Int), (∀ (u : World), S u → World.cell? u (Addr.add ad (Int.toNat (0 : Int) * 1)) = some (Value.int IntKind.i64
 x_27)) ∧ ∃ (ad : Addr), x_21 = some ad ∧ ((0 : Int) ≤ x_27 ∧ x_27 < (↑x_22 : Int)) ∧ ∃ (x_28 : Option Addr), (∀ (u : World), S u → World.cell? u (Addr.add ad (Int.toNat x_27 * 1)) = some
 (Value.pointer x_28)) ∧ ∃ (ad : Addr), x_18 = some ad ∧ ((0 : Int) ≤ x ∧ x < (↑x_19 : Int)) ∧ stOK (Addr.add ad (Int.toNat x * 1)) 0 [Value.pointer x_28] (World.drew w') ∧ ∀ (w'_1 : World), w'_1
 = setAll (Addr.add ad (Int.toNat x * 1)) 0 [Value.pointer x_28] (World.drew w') → ∃ (a_8 : Addr), x_14 = some a_8 ∧ ∃ (x : Option Addr) (x_29 x_30 : Nat), World.cell? w'_1 (Addr.add a_8 2) =
 some (Value.slice x x_29 x_30) ∧ ∃ (ad : Addr), x = some ad ∧ ((0 : Int) ≤ (0 : Int) ∧ (0 : Int) < (↑x_29 : Int)) ∧ ∃ (x : Int), World.cell? w'_1 (Addr.add ad (Int.toNat (0 : Int) * 1)) =
 some (Value.int IntKind.i64 x) ∧ CallsV Try.prog 117 #[Value.pointer a, Value.int IntKind.i64 x] w'_1 fun (v : Value) (w' : World) => v = Value.tuple #[] ∧ K (Value.tuple #[Value.bool true,
 Value.int IntKind.i64 (0 : Int)]) w' else K (Value.tuple #[Value.bool true, Value.int IntKind.i64 (0 : Int)]) w'
theorem tree_Arena_Delete.calls (ok : Okay Try.prog) {a : Option Addr} {root : Int} {key_A : Option Addr} {key_n : Nat} {key_c : Nat} {w : World} {K : Value → World → Prop} (h : tree_Arena_Delete.W a root key_A key_n key_c w K) : CallsV Try.prog 87 #[.pointer a, .int .i64 root, .slice key_A key_n key_c] w K :=
  fnW_calls ok Try.func87 (an := (.named .auto)) (args := [.pointer a, .int .i64 root, .slice key_A key_n key_c]) (Eq.mp (by kernel_rfl) h)
noncomputable def tree_Arena_Drop.W : Option Addr → Int → World → (Value → World → Prop) → Prop := fun (a : Option Addr) (root : Int) (w : World) (K : Value → World → Prop) => CallsV Try.prog 108
 #[Value.pointer a, Value.int IntKind.i64 root] w fun (v : Value) (w' : World) => ∃ (x x_1 : Int), v = Value.tuple #[Value.int IntKind.i64 x, Value.int IntKind.i64 x_1] ∧ bif !decide (x_1 = (0
 : Int)) then K (Value.int IntKind.i64 x_1) w' else CallsV Try.prog 116 #[Value.pointer a, Value.int IntKind.i64 x] w' fun (v : Value) (w' : World) => ∃ (x : Value), v = x ∧ CallsV Try.prog 115 #[x] w'
 fun (v : Value) (w' : World) => ∃ (x : Option Addr) (x_2 x_3 : Nat), v = Value.slice x x_2 x_3 ∧ ∃ (I : Int → World → Prop) (μ : Int → World → Nat), I (0 : Int) w' ∧ ∀ (x_4 : Int) (w : World), I x_4 w
 → bif decide (x_4 < (↑x_2 : Int)) then ∃ (ad : Addr), x = some ad ∧ ((0 : Int) ≤ x_4 ∧ x_4 < (↑x_2 : Int)) ∧ ∃ (x : Int), World.cell? w (Addr.add ad (Int.toNat x_4 * 1)) = some
 (Value.int IntKind.i64 x) ∧ CallsV Try.prog 117 #[Value.pointer a, Value.int IntKind.i64 x] w fun (v : Value) (w' : World) => v = Value.tuple #[] ∧ I (IntKind.wrap IntKind.i64 (x_4 + (1 : Int))) w' ∧ μ
 (IntKind.wrap IntKind.i64 (x_4 + (1 : Int))) w' < μ x_4 w else ∃ (a_2 : Addr), a = some a_2 ∧ ∃ (x : Option Nat), World.cell? w (Addr.add a_2 4) = some (Value.map x) ∧ ∃ (w' : World),
 RunsTo Try.prog (Builtin.delete_ (Array.mk [145, 3]) 0 #[Value.map x, Value.int IntKind.i64 root]) w (Value.tuple #[]) w' ∧ K (Value.int IntKind.i64 (0 : Int)) w'
theorem tree_Arena_Drop.calls (ok : Okay Try.prog) {a : Option Addr} {root : Int} {w : World} {K : Value → World → Prop} (h : tree_Arena_Drop.W a root w K) : CallsV Try.prog 79 #[.pointer a, .int .i64 root] w K :=
  fnW_calls ok Try.func79 (an := (.named (.seq .auto (.seq .auto (.seq .auto (.seq (.seq .auto (.block (.loop [(23, .one (.int .i64))] .auto))) .auto)))))) (args := [.pointer a, .int .i64 root]) (Eq.mp (by kernel_rfl) h)
noncomputable def tree_Arena_Save.W : Option Addr → World → (Value → World → Prop) → Prop := fun (a : Option Addr) (w : World) (K : Value → World → Prop) => CallsV Try.prog 104 #[Value.pointer a] w fun
 (v : Value) (w' : World) => ∃ (x : Bool), v = Value.bool x ∧ bif !x then K (Value.pointer none) w' else ∃ (a_1 : Addr), a = some a_1 ∧ ∃ (S : World → Prop), S (World.drew w') ∧ ∃ (x :
 Option Addr) (x_1 x_2 : Nat), (∀ (u : World), S u → World.cell? u (Addr.add a_1 2) = some (Value.slice x x_1 x_2)) ∧ ∃ (a_2 : Addr), a = some a_2 ∧ ∃ (x_3 : Option Addr) (x_4 x_5 : Nat),
 (∀ (u : World), S u → World.cell? u (Addr.add a_2 3) = some (Value.slice x_3 x_4 x_5)) ∧ ∃ (a_3 : Addr), a = some a_3 ∧ ∃ (x_6 : Option Nat), (∀ (u : World), S u → World.cell? u (Addr.add
 a_3 4) = some (Value.map x_6)) ∧ ∃ (a_4 : Addr), a = some a_4 ∧ ∃ (x_7 : Int), (∀ (u : World), S u → World.cell? u (Addr.add a_4 5) = some (Value.int IntKind.i64 x_7)) ∧ CallsV
 Try.prog 105 #[Value.slice x x_1 x_2] (World.drew w') fun (v : Value) (w' : World) => ∃ (x : Option Addr) (x_8 x_9 : Nat), v = Value.slice x x_8 x_9 ∧ S w' ∧ CallsV Try.prog 72 #[Value.slice x_3 x_4
 x_5] w' fun (v : Value) (w' : World) => ∃ (x_10 : Option Addr) (x_11 x_12 : Nat), v = Value.slice x_10 x_11 x_12 ∧ S w' ∧ CallsV Try.prog 106 #[Value.map x_6] w' fun (v : Value) (w' : World) => ∃ (x_13
 : Option Nat), v = Value.map x_13 ∧ S w' ∧ ∀ (g : Nat) (w'_1 : World), Fresh w' g w'_1 [Value.pointer a, Value.slice x x_8 x_9, Value.slice x_10 x_11 x_12, Value.map x_13, Value.int IntKind.i64 x_7]
 153 → S w'_1 ∧ K (Value.pointer (some (Addr.mk g 0 none))) w'_1
theorem tree_Arena_Save.calls (ok : Okay Try.prog) {a : Option Addr} {w : World} {K : Value → World → Prop} (h : tree_Arena_Save.W a w K) : CallsV Try.prog 71 #[.pointer a] w K :=
  fnW_calls ok Try.func71 (an := (.named .auto)) (args := [.pointer a]) (Eq.mp (by kernel_rfl) h)
noncomputable def tree_Arena_Load.W : Option Addr → Option Addr → World → (Value → World → Prop) → Prop := fun (a s : Option Addr) (w : World) (K : Value → World → Prop) => CallsV Try.prog 104
 #[Value.pointer a] w fun (v : Value) (w' : World) => ∃ (x : Bool), v = Value.bool x ∧ bif !x then K (Value.int IntKind.i64 (1 : Int)) w' else bif Option.isNone s then K (Value.int IntKind.i64 (2 :
 Int)) w' else ∃ (a_1 : Addr), s = some a_1 ∧ ∃ (x : Option Addr), World.cell? w' (Addr.add a_1 0) = some (Value.pointer x) ∧ ∃ (ad : Addr), (x = some ad ∧ a = some ad) ∧ ∃
 (a_2 : Addr), s = some a_2 ∧ ∃ (S : World → Prop), S (World.drew w') ∧ ∃ (x : Option Addr) (x_1 x_2 : Nat), (∀ (u : World), S u → World.cell? u (Addr.add a_2 1) = some (Value.slice x x_1
 x_2)) ∧ ∃ (a_3 : Addr), s = some a_3 ∧ ∃ (x_3 : Option Addr) (x_4 x_5 : Nat), (∀ (u : World), S u → World.cell? u (Addr.add a_3 2) = some (Value.slice x_3 x_4 x_5)) ∧ ∃ (a_4 : Addr), s =
 some a_4 ∧ ∃ (x_6 : Option Nat), (∀ (u : World), S u → World.cell? u (Addr.add a_4 3) = some (Value.map x_6)) ∧ ∃ (a_5 : Addr), s = some a_5 ∧ ∃ (x_7 : Int), (∀ (u : World), S u →
 World.cell? u (Addr.add a_5 4) = some (Value.int IntKind.i64 x_7)) ∧ CallsV Try.prog 105 #[Value.slice x x_1 x_2] (World.drew w') fun (v : Value) (w' : World) => ∃ (x : Option Addr) (x_8 x_9 :
 Nat), v = Value.slice x x_8 x_9 ∧ S w' ∧ CallsV Try.prog 72 #[Value.slice x_3 x_4 x_5] w' fun (v : Value) (w' : World) => ∃ (x_10 : Option Addr) (x_11 x_12 : Nat), v = Value.slice x_10 x_11 x_12 ∧ S w'
 ∧ CallsV Try.prog 106 #[Value.map x_6] w' fun (v : Value) (w' : World) => ∃ (x_13 : Option Nat), v = Value.map x_13 ∧ S w' ∧ ∃ (a_6 : Addr), a = some a_6 ∧ stOK (Addr.add a_6 2) 0 [Value.slice x
 x_8 x_9] w' ∧ ∀ (w'_1 : World), w'_1 = setAll (Addr.add a_6 2) 0 [Value.slice x x_8 x_9] w' → ∃ (a_8 : Addr), a = some a_8 ∧ stOK (Addr.add a_8 3) 0 [Value.slice x_10 x_11 x_12] w'_1 ∧ ∀ (w' :
 World), w' = setAll (Addr.add a_8 3) 0 [Value.slice x_10 x_11 x_12] w'_1 → ∃ (a_10 : Addr), a = some a_10 ∧ stOK (Addr.add a_10 4) 0 [Value.map x_13] w' ∧ ∀ (w'_2 : World), w'_2 = setAll
 (Addr.add a_10 4) 0 [Value.map x_13] w' → ∃ (a_12 : Addr), a = some a_12 ∧ stOK (Addr.add a_12 5) 0 [Value.int IntKind.i64 x_7] w'_2 ∧ ∀ (w' : World), w' = setAll (Addr.add a_12 5) 0 [Value.int
 IntKind.i64 x_7] w'_2 → K (Value.int IntKind.i64 (0 : Int)) w'
theorem tree_Arena_Load.calls (ok : Okay Try.prog) {a : Option Addr} {s : Option Addr} {w : World} {K : Value → World → Prop} (h : tree_Arena_Load.W a s w K) : CallsV Try.prog 75 #[.pointer a, .pointer s] w K :=
  fnW_calls ok Try.func75 (an := (.named .auto)) (args := [.pointer a, .pointer s]) (Eq.mp (by kernel_rfl) h)
noncomputable def tree_Arena_Before.W : Option Addr → Int → Option Addr → Nat → Nat → Bool → World → (Value → World → Prop) → Prop := fun (a : Option Addr) (root : Int) (key_A : Option Addr) (key_n
 key_c : Nat) (atx : Bool) (w : World) (K : Value → World → Prop) => CallsV Try.prog 108 #[Value.pointer a, Value.int IntKind.i64 root] w fun (v : Value) (w' : World) => ∃ (x x_1 : Int), v = Value.tuple
 #[Value.int IntKind.i64 x, Value.int IntKind.i64 x_1] ∧ bif !decide (x_1 = (0 : Int)) then K (Value.tuple #[Value.slice none 0 0, Value.slice none 0 0, Value.bool false])
 w' else ∃ (a_1 : Addr), a = some a_1 ∧ ∃ (x_2 : Option Addr) (x_3 x_4 : Nat), World.cell? w' (Addr.add a_1 2) = some (Value.slice x_2 x_3 x_4) ∧ ∃ (ad : Addr), x_2 = some ad ∧ ((0
 : Int) ≤ x ∧ x < (↑x_3 : Int)) ∧ ∃ (x_5 : Option Addr), World.cell? w' (Addr.add ad (Int.toNat x * 1)) = some (Value.pointer x_5) ∧ ∃ (I : Option Addr → Int → World → Prop) (μ : Option Addr →
 Int → World → Nat), I x_5 (-1 : Int) w' ∧ ∀ (x : Option Addr) (x_6 : Int) (w : World), I x x_6 w → ∃ (a_3 : Addr), x = some a_3 ∧ ∃ (x_7 : Option Addr) (x_8 x_9 : Nat), World.cell? w (Addr.add
 a_3 2) = some (Value.slice x_7 x_8 x_9) ∧ bif !Option.isNone x_7 then CallsV Try.prog 121 #[Value.pointer x, Value.slice key_A key_n key_c] w fun (v : Value) (w' : World) => ∃ (x_10 : Int), v =
 Value.int IntKind.i64 x_10 ∧ bif decide ((0 : Int) < x_10) then ∃ (a_4 : Addr), x = some a_4 ∧ ∃ (x_11 : Option Addr) (x_12 x_13 : Nat), World.cell? w' (Addr.add a_4 2) = some
 (Value.slice x_11 x_12 x_13) ∧ ∃ (ad : Addr), x_11 = some ad ∧ ((0 : Int) ≤ IntKind.wrap IntKind.i64 (x_10 - (1 : Int)) ∧ IntKind.wrap IntKind.i64 (x_10 - (1 : Int)) < (↑x_12 : Int)) ∧ ∃ (x_14 :
 Int), World.cell? w' (Addr.add ad (Int.toNat (IntKind.wrap IntKind.i64 (x_10 - (1 : Int))) * 1)) = some (Value.int IntKind.i64 x_14) ∧ ∃ (a_5 : Addr), a = some a_5 ∧ ∃ (S : World → Prop),
 S (World.drew w') ∧ ∃ (x_15 : Option Addr) (x_16 x_17 : Nat), (∀ (u : World), S u → World.cell? u (Addr.add a_5 2) = some (Value.slice x_15 x_16 x_17)) ∧ ∃ (a : Addr), x = some a ∧ ∃
 (x_18 : Option Addr) (x_19 x_20 : Nat), (∀ (u : World), S u → World.cell? u (Addr.add a 2) = some (Value.slice x_18 x_19 x_20)) ∧ ∃ (ad : Addr), x_18 = some ad ∧ ((0 : Int) ≤ x_10 ∧ x_10
 < (↑x_19 : Int)) ∧ ∃ (x_21 : Int), (∀ (u : World), S u → World.cell? u (Addr.add ad (Int.toNat x_10 * 1)) = some (Value.int IntKind.i64 x_21)) ∧ ∃ (ad : Addr), x_15 = some ad ∧ ((0 : Int)
 ≤ x_21 ∧ x_21 < (↑x_16 : Int)) ∧ ∃ (x_22 : Option Addr), (∀ (u : World), S u → World.cell? u (Addr.add ad (Int.toNat x_21 * 1)) = some (Value.pointer x_22)) ∧ I x_22 x_14 (World.drew w') ∧ μ
 x_22 x_14 (World.drew w') < μ x x_6 w else ∃ (a_4 : Addr), a = some a_4 ∧ ∃ (S : World → Prop), S (World.drew w') ∧ ∃ (x_11 : Option Addr) (x_12 x_13 : Nat), (∀ (u : World), S u → World.cell? u
 (Addr.add a_4 2) = some (Value.slice x_11 x_12 x_13)) ∧ ∃ (a : Addr), x = some a ∧ ∃ (x_14 : Option Addr) (x_15 x_16 : Nat), (∀ (u : World), S u → World.cell? u (Addr.add a 2) =
 some (Value.slice x_14 x_15 x_16)) ∧ ∃ (ad : Addr), x_14 = some ad ∧ ((0 : Int) ≤ x_10 ∧ x_10 < (↑x_15 : Int)) ∧ ∃ (x_17 : Int), (∀ (u : World), S u → World.cell? u (Addr.add ad
 (Int.toNat x_10 * 1)) = some (Value.int IntKind.i64 x_17)) ∧ ∃ (ad : Addr), x_11 = some ad ∧ ((0 : Int) ≤ x_17 ∧ x_17 < (↑x_12 : Int)) ∧ ∃ (x_18 : Option Addr), (∀ (u : World), S u →
 World.cell? u (Addr.add ad (Int.toNat x_17 * 1)) = some (Value.pointer x_18)) ∧ I x_18 x_6 (World.drew w') ∧ μ x_18 x_6 (World.drew w') < μ x x_6 w else ∃ (a_4 : Addr), x = some a_4 ∧ ∃
 (x_10 : Option Addr) (x_11 x_12 : Nat), World.cell? w (Addr.add a_4 0) = some (Value.slice x_10 x_11 x_12) ∧ CallsV Try.prog 110 #[Value.slice x_10 x_11 x_12, Value.slice key_A key_n key_c,
 Value.func (Fn.func 111) #[] #[]] w fun (v : Value) (w' : World) => ∃ (x_13 : Int) (x_14 : Bool), v = Value.tuple #[Value.int IntKind.i64 x_13, Value.bool x_14] ∧ ∃ (J : Int → World → Prop), (∀ (x_15 :
 Int) (w : World), J x_15 w → bif decide ((0 : Int) ≤ x_15) then CallsV Try.prog 122 #[Value.pointer x, Value.int IntKind.i64 x_15] w fun (v : Value) (w' : World) => ∃ (x : Option Addr) (x_16
 x_17 : Nat) (x_18 : Option Addr) (x_19 x_20 : Nat) (x_21 : Bool), v = Value.tuple #[Value.slice x x_16 x_17, Value.slice x_18 x_19 x_20, Value.bool x_21] ∧ K (Value.tuple #[Value.slice x x_16 x_17,
 Value.slice x_18 x_19 x_20, Value.bool x_21]) w' else bif decide (x_6 < (0 : Int)) then CallsV Try.prog 122 #[Value.pointer x, Value.int IntKind.i64 x_15] w fun (v : Value) (w' : World) => ∃
 (x : Option Addr) (x_16 x_17 : Nat) (x_18 : Option Addr) (x_19 x_20 : Nat) (x_21 : Bool), v = Value.tuple #[Value.slice x x_16 x_17, Value.slice x_18 x_19 x_20, Value.bool x_21] ∧ K (Value.tuple
 #[Value.slice x x_16 x_17, Value.slice x_18 x_19 x_20, Value.bool x_21]) w' else CallsV Try.prog 123 #[Value.pointer a, Value.int IntKind.i64 x_6] w fun (v : Value) (w' : World) => ∃ (x : Option Addr),
 v = Value.pointer x ∧ ∃ (a : Addr), x = some a ∧ ∃ (x_16 : Option Addr) (x_17 x_18 : Nat), World.cell? w' (Addr.add a 0) = some (Value.slice x_16 x_17 x_18) ∧ CallsV Try.prog 122
 #[Value.pointer x, Value.int IntKind.i64 (IntKind.wrap IntKind.i64 ((↑x_17 : Int) - (1 : Int)))] w' fun (v : Value) (w' : World) => ∃ (x : Option Addr) (x_19 x_20 : Nat) (x_21 : Option Addr) (x_22 x_23
 : Nat) (x_24 : Bool), v = Value.tuple #[Value.slice x x_19 x_20, Value.slice x_21 x_22 x_23, Value.bool x_24] ∧ K (Value.tuple #[Value.slice x x_19 x_20, Value.slice x_21 x_22 x_23, Value.bool x_24])
 w') ∧ bif !x_14 then J (IntKind.wrap IntKind.i64 (x_13 - (1 : Int))) w' else bif !atx then J (IntKind.wrap IntKind.i64 (x_13 - (1 : Int))) w' else J x_13 w'
theorem tree_Arena_Before.calls (ok : Okay Try.prog) {a : Option Addr} {root : Int} {key_A : Option Addr} {key_n : Nat} {key_c : Nat} {atx : Bool} {w : World} {K : Value → World → Prop} (h : tree_Arena_Before.W a root key_A key_n key_c atx w K) : CallsV Try.prog 90 #[.pointer a, .int .i64 root, .slice key_A key_n key_c, .bool atx] w K :=
  fnW_calls ok Try.func90 (an := (.named (.seq .auto (.seq .auto (.seq .auto (.seq .auto (.seq .auto (.seq (.block (.loop [(13, .one .ptr), (14, .one (.int .i64))] .auto)) (.seq .auto (.join [(16, .one (.int .i64))] .auto .auto)))))))))) (args := [.pointer a, .int .i64 root, .slice key_A key_n key_c, .bool atx]) (Eq.mp (by kernel_rfl) h)
noncomputable def tree_Arena_made.W : Option Addr → World → (Value → World → Prop) → Prop := fun (a : Option Addr) (w : World) (K : Value → World → Prop) => bif !Option.isNone a then ∃ (a_1 : Addr), a
 = some a_1 ∧ ∃ (x : Int), World.cell? w (Addr.add a_1 0) = some (Value.int IntKind.i64 x) ∧ K (Value.bool (decide ((0 : Int) < x))) w else K (Value.bool false) w
theorem tree_Arena_made.calls (ok : Okay Try.prog) {a : Option Addr} {w : World} {K : Value → World → Prop} (h : tree_Arena_made.W a w K) : CallsV Try.prog 104 #[.pointer a] w K :=
  fnW_calls ok Try.func104 (an := (.named .auto)) (args := [.pointer a]) (Eq.mp (by kernel_rfl) h)
noncomputable def tree_Arena_place.W : Option Addr → Option Addr → World → (Value → World → Prop) → Prop := fun (a n : Option Addr) (w : World) (K : Value → World → Prop) => ∃ (a_1 : Addr), a =
 some a_1 ∧ ∃ (x : Option Addr) (x_1 x_2 : Nat), World.cell? w (Addr.add a_1 3) = some (Value.slice x x_1 x_2) ∧ bif decide ((0 : Int) < (↑x_1 : Int)) then ∃ (a_2 : Addr), a =
 some a_2 ∧ ∃ (x : Option Addr) (x_3 x_4 : Nat), World.cell? w (Addr.add a_2 3) = some (Value.slice x x_3 x_4) ∧ ∃ (ad : Addr), x = some ad ∧ ((0 : Int) ≤ IntKind.wrap IntKind.i64
 ((↑x_1 : Int) - (1 : Int)) ∧ IntKind.wrap IntKind.i64 ((↑x_1 : Int) - (1 : Int)) < (↑x_3 : Int)) ∧ ∃ (x : Int), World.cell? w (Addr.add ad (Int.toNat (IntKind.wrap IntKind.i64 ((↑x_1 : Int) - (1 :
 Int))) * 1)) = some (Value.int IntKind.i64 x) ∧ ∃ (a_3 : Addr), a = some a_3 ∧ ∃ (x_5 : Option Addr) (x_6 x_7 : Nat), World.cell? w (Addr.add a_3 3) = some (Value.slice x_5 x_6
 x_7) ∧ ((0 : Int) ≤ IntKind.wrap IntKind.i64 ((↑x_1 : Int) - (1 : Int)) ∧ IntKind.wrap IntKind.i64 ((↑x_1 : Int) - (1 : Int)) ≤ (↑x_7 : Int)) ∧ ∃ (a_4 : Addr), a = some a_4 ∧ stOK (Addr.add a_4
 3) 0 [Value.slice (cutAt x_5 x_7 0 1) (Int.toNat (IntKind.wrap IntKind.i64 ((↑x_1 : Int) - (1 : Int))) - 0) (x_7 - 0)] w ∧ ∀ (w' : World), w' = setAll (Addr.add a_4 3) 0 [Value.slice (cutAt x_5 x_7 0
 1) (Int.toNat (IntKind.wrap IntKind.i64 ((↑x_1 : Int) - (1 : Int))) - 0) (x_7 - 0)] w → ∃ (a_6 : Addr), a = some a_6 ∧ ∃ (x_8 : Option Addr) (x_9 x_10 : Nat), World.cell? w' (Addr.add a_6 2) =
 some (Value.slice x_8 x_9 x_10) ∧ ∃ (ad : Addr), x_8 = some ad ∧ ((0 : Int) ≤ x ∧ x < (↑x_9 : Int)) ∧ stOK (Addr.add ad (Int.toNat x * 1)) 0 [Value.pointer n] w' ∧ ∀ (w'_1 : World), w'_1
 = setAll (Addr.add ad (Int.toNat x * 1)) 0 [Value.pointer n] w' → K (Value.int IntKind.i64 x) w'_1 else ∃ (a_2 : Addr), a = some a_2 ∧ ∃ (x : Option Addr) (x_3 x_4 : Nat), World.cell? w
 (Addr.add a_2 2) = some (Value.slice x x_3 x_4) ∧ ∀ (g : Nat) (w' : World), Fresh w g w' [Value.pointer n] 150 → ∃ (x_5 : Option Addr) (x_6 x_7 : Nat) (w'_1 : World), RunsTo Try.prog
 (Builtin.append_ (Array.mk [146, 146]) 146 #[Value.slice x x_3 x_4, Value.slice (some (Addr.mk g 0 none)) 1 1]) w' (Value.slice x_5 x_6 x_7) w'_1 ∧ ∃ (a_4 : Addr), a = some a_4 ∧
 stOK (Addr.add a_4 2) 0 [Value.slice x_5 x_6 x_7] w'_1 ∧ ∀ (w' : World), w' = setAll (Addr.add a_4 2) 0 [Value.slice x_5 x_6 x_7] w'_1 → ∃ (a_6 : Addr), a = some a_6 ∧ ∃ (x : Option Addr) (x_8
 x_9 : Nat), World.cell? w' (Addr.add a_6 2) = some (Value.slice x x_8 x_9) ∧ K (Value.int IntKind.i64 (IntKind.wrap IntKind.i64 ((↑x_8 : Int) - (1 : Int)))) w'
theorem tree_Arena_place.calls (ok : Okay Try.prog) {a : Option Addr} {n : Option Addr} {w : World} {K : Value → World → Prop} (h : tree_Arena_place.W a n w K) : CallsV Try.prog 107 #[.pointer a, .pointer n] w K :=
  fnW_calls ok Try.func107 (an := (.named .auto)) (args := [.pointer a, .pointer n]) (Eq.mp (by kernel_rfl) h)
noncomputable def tree_Arena_top.W : Option Addr → Int → World → (Value → World → Prop) → Prop := fun (a : Option Addr) (root : Int) (w : World) (K : Value → World → Prop) => CallsV Try.prog 104
 #[Value.pointer a] w fun (v : Value) (w' : World) => ∃ (x : Bool), v = Value.bool x ∧ bif !x then K (Value.tuple #[Value.int IntKind.i64 (0 : Int), Value.int IntKind.i64 (1 : Int)]) w' else ∃ (a_1 :
 Addr), a = some a_1 ∧ ∃ (x : Option Nat), World.cell? w' (Addr.add a_1 4) = some (Value.map x) ∧ ∃ (x_1 : Int) (x_2 : Bool) (w'_1 : World), RunsTo Try.prog (Instr.lookup 145 (Value.map x)
 (Value.int IntKind.i64 root) true) w' (Value.tuple #[Value.int IntKind.i64 x_1, Value.bool x_2]) w'_1 ∧ bif !x_2 then K (Value.tuple #[Value.int IntKind.i64 (0 : Int), Value.int IntKind.i64 (41 :
 Int)]) w'_1 else K (Value.tuple #[Value.int IntKind.i64 x_1, Value.int IntKind.i64 (0 : Int)]) w'_1
theorem tree_Arena_top.calls (ok : Okay Try.prog) {a : Option Addr} {root : Int} {w : World} {K : Value → World → Prop} (h : tree_Arena_top.W a root w K) : CallsV Try.prog 108 #[.pointer a, .int .i64 root] w K :=
  fnW_calls ok Try.func108 (an := (.named .auto)) (args := [.pointer a, .int .i64 root]) (Eq.mp (by kernel_rfl) h)
noncomputable def tree_Arena_leaf.W : Option Addr → Int → Option Addr → Nat → Nat → World → (Value → World → Prop) → Prop := fun (a : Option Addr) (i : Int) (key_A : Option Addr) (key_n key_c : Nat) (w
 : World) (K : Value → World → Prop) => ∀ (g : Nat) (w' : World), Fresh w g w' [Value.int IntKind.i64 i] 3 → ∃ (a_2 : Addr), a = some a_2 ∧ ∃ (x : Option Addr) (x_1 x_2 : Nat), World.cell? w'
 (Addr.add a_2 2) = some (Value.slice x x_1 x_2) ∧ ∃ (ad : Addr), x = some ad ∧ ((0 : Int) ≤ i ∧ i < (↑x_1 : Int)) ∧ ∃ (x : Option Addr), World.cell? w' (Addr.add ad (Int.toNat i * 1)) =
 some (Value.pointer x) ∧ ∃ (I : Option Addr → Nat → Nat → Option Addr → World → Prop) (μ : Option Addr → Nat → Nat → Option Addr → World → Nat), I (some (Addr.mk g 0 none)) 1 1 x
 w' ∧ ∀ (x : Option Addr) (x_3 x_4 : Nat) (x_5 : Option Addr) (w : World), I x x_3 x_4 x_5 w → ∃ (a_4 : Addr), x_5 = some a_4 ∧ ∃ (x_6 : Option Addr) (x_7 x_8 : Nat), World.cell? w (Addr.add a_4
 2) = some (Value.slice x_6 x_7 x_8) ∧ bif !Option.isNone x_6 then ∃ (a_5 : Addr), x_5 = some a_5 ∧ ∃ (S : World → Prop), S (World.drew w) ∧ ∃ (x_9 : Option Addr) (x_10 x_11 : Nat), (∀ (u
 : World), S u → World.cell? u (Addr.add a_5 2) = some (Value.slice x_9 x_10 x_11)) ∧ CallsV Try.prog 121 #[Value.pointer x_5, Value.slice key_A key_n key_c] (World.drew w) fun (v : Value) (w' :
 World) => ∃ (x_12 : Int), v = Value.int IntKind.i64 x_12 ∧ S w' ∧ ∃ (ad : Addr), x_9 = some ad ∧ ((0 : Int) ≤ x_12 ∧ x_12 < (↑x_10 : Int)) ∧ ∃ (S : World → Prop), S w' ∧ ∃ (x_13 : Int), (∀ (u :
 World), S u → World.cell? u (Addr.add ad (Int.toNat x_12 * 1)) = some (Value.int IntKind.i64 x_13)) ∧ ∃ (a_6 : Addr), a = some a_6 ∧ ∃ (x_14 : Option Addr) (x_15 x_16 : Nat), World.cell?
 w' (Addr.add a_6 2) = some (Value.slice x_14 x_15 x_16) ∧ ∃ (ad : Addr), x_14 = some ad ∧ ((0 : Int) ≤ x_13 ∧ x_13 < (↑x_15 : Int)) ∧ ∃ (x_17 : Option Addr), World.cell? w' (Addr.add ad
 (Int.toNat x_13 * 1)) = some (Value.pointer x_17) ∧ ∀ (g : Nat) (w'_1 : World), Fresh w' g w'_1 [Value.int IntKind.i64 x_13] 3 → ∃ (x_18 : Option Addr) (x_19 x_20 : Nat) (w' : World), RunsTo
 Try.prog (Builtin.append_ (Array.mk [37, 37]) 37 #[Value.slice x x_3 x_4, Value.slice (some (Addr.mk g 0 none)) 1 1]) w'_1 (Value.slice x_18 x_19 x_20) w' ∧ I x_18 x_19 x_20 x_17 w' ∧ μ
 x_18 x_19 x_20 x_17 w' < μ x x_3 x_4 x_5 w else K (Value.tuple #[Value.pointer x_5, Value.slice x x_3 x_4]) w
theorem tree_Arena_leaf.calls (ok : Okay Try.prog) {a : Option Addr} {i : Int} {key_A : Option Addr} {key_n : Nat} {key_c : Nat} {w : World} {K : Value → World → Prop} (h : tree_Arena_leaf.W a i key_A key_n key_c w K) : CallsV Try.prog 109 #[.pointer a, .int .i64 i, .slice key_A key_n key_c] w K :=
  fnW_calls ok Try.func109 (an := (.named (.seq .auto (.seq .auto (.seq .auto (.seq (.block (.loop [(8, .one .slc), (9, .one .ptr)] .auto)) .auto)))))) (args := [.pointer a, .int .i64 i, .slice key_A key_n key_c]) (Eq.mp (by kernel_rfl) h)
noncomputable def tree_Arena_wants.W : Option Addr → Option Addr → Nat → Nat → World → (Value → World → Prop) → Prop := fun (a way_A : Option Addr) (way_n way_c : Nat) (w : World) (K : Value → World →
 Prop) => ∃ (I : Int → Int → World → Prop) (μ : Int → Int → World → Nat), I (0 : Int) (IntKind.wrap IntKind.i64 ((↑way_n : Int) - (1 : Int))) w ∧ ∀ (x x_1 : Int) (w : World), I x x_1 w → bif
 decide ((0 : Int) ≤ x_1) then ∃ (a_2 : Addr), a = some a_2 ∧ ∃ (S : World → Prop), S (World.drew w) ∧ ∃ (x_2 : Option Addr) (x_3 x_4 : Nat), (∀ (u : World), S u → World.cell? u
 (Addr.add a_2 2) = some (Value.slice x_2 x_3 x_4)) ∧ ∃ (ad : Addr), way_A = some ad ∧ ((0 : Int) ≤ x_1 ∧ x_1 < (↑way_n : Int)) ∧ ∃ (x_5 : Int), (∀ (u : World), S u → World.cell? u
 (Addr.add ad (Int.toNat x_1 * 1)) = some (Value.int IntKind.i64 x_5)) ∧ ∃ (ad : Addr), x_2 = some ad ∧ ((0 : Int) ≤ x_5 ∧ x_5 < (↑x_3 : Int)) ∧ ∃ (x_6 : Option Addr), (∀ (u : World), S u
 → World.cell? u (Addr.add ad (Int.toNat x_5 * 1)) = some (Value.pointer x_6)) ∧ ∃ (a_3 : Addr), a = some a_3 ∧ ∃ (x_7 : Int), (∀ (u : World), S u → World.cell? u (Addr.add a_3 0) =
 some (Value.int IntKind.i64 x_7)) ∧ CallsV Try.prog 127 #[Value.pointer x_6] (World.drew w) fun (v : Value) (w' : World) => ∃ (x_8 : Int), v = Value.int IntKind.i64 x_8 ∧ S w' ∧ bif
 decide (x_8 < x_7) then K (Value.int IntKind.i64 x) w' else I (IntKind.wrap IntKind.i64 (x + (1 : Int))) (IntKind.wrap IntKind.i64 (x_1 - (1 : Int))) w' ∧ μ (IntKind.wrap IntKind.i64 (x + (1
 : Int))) (IntKind.wrap IntKind.i64 (x_1 - (1 : Int))) w' < μ x x_1 w else K (Value.int IntKind.i64 (IntKind.wrap IntKind.i64 (x + (1 : Int)))) w
theorem tree_Arena_wants.calls (ok : Okay Try.prog) {a : Option Addr} {way_A : Option Addr} {way_n : Nat} {way_c : Nat} {w : World} {K : Value → World → Prop} (h : tree_Arena_wants.W a way_A way_n way_c w K) : CallsV Try.prog 112 #[.pointer a, .slice way_A way_n way_c] w K :=
  fnW_calls ok Try.func112 (an := (.named (.seq .auto (.seq .auto (.seq (.seq .auto (.block (.loop [(5, .one (.int .i64)), (6, .one (.int .i64))] .auto))) .auto))))) (args := [.pointer a, .slice way_A way_n way_c]) (Eq.mp (by kernel_rfl) h)
noncomputable def tree_Arena_put.W : Option Addr → Int → Option Addr → Nat → Nat → Option Addr → Nat → Nat → World → (Value → World → Prop) → Prop := fun (a : Option Addr) (i : Int) (key_A : Option
 Addr) (key_n key_c : Nat) (val_A : Option Addr) (val_n val_c : Nat) (w : World) (K : Value → World → Prop) => ∃ (a_1 : Addr), a = some a_1 ∧ ∃ (x : Option Addr) (x_1 x_2 : Nat), World.cell? w
 (Addr.add a_1 2) = some (Value.slice x x_1 x_2) ∧ ∃ (ad : Addr), x = some ad ∧ ((0 : Int) ≤ i ∧ i < (↑x_1 : Int)) ∧ ∃ (x : Option Addr), World.cell? w (Addr.add ad (Int.toNat i * 1)) =
 some (Value.pointer x) ∧ ∃ (a_2 : Addr), x = some a_2 ∧ ∃ (x_3 : Option Addr) (x_4 x_5 : Nat), World.cell? w (Addr.add a_2 2) = some (Value.slice x_3 x_4 x_5) ∧ bif Option.isNone
 x_3 then ∃ (a_3 : Addr), x = some a_3 ∧ ∃ (x_6 : Option Addr) (x_7 x_8 : Nat), World.cell? w (Addr.add a_3 0) = some (Value.slice x_6 x_7 x_8) ∧ CallsV Try.prog 110 #[Value.slice x_6 x_7
 x_8, Value.slice key_A key_n key_c, Value.func (Fn.func 111) #[] #[]] w fun (v : Value) (w' : World) => ∃ (x_9 : Int) (x_10 : Bool), v = Value.tuple #[Value.int IntKind.i64 x_9, Value.bool x_10] ∧ ∃ (J
 : Option Addr → World → Prop), (∀ (x : Option Addr) (w : World), J x w → bif x_10 then ∃ (a_5 : Addr), x = some a_5 ∧ ∃ (x_11 : Option Addr) (x_12 x_13 : Nat), World.cell? w (Addr.add a_5 1) =
 some (Value.slice x_11 x_12 x_13) ∧ ∃ (ad : Addr), x_11 = some ad ∧ ((0 : Int) ≤ x_9 ∧ x_9 < (↑x_12 : Int)) ∧ stOK (Addr.add ad (Int.toNat x_9 * 1)) 0 [Value.slice val_A val_n val_c] w ∧
 ∀ (w' : World), w' = setAll (Addr.add ad (Int.toNat x_9 * 1)) 0 [Value.slice val_A val_n val_c] w → CallsV Try.prog 130 #[Value.pointer a, Value.int IntKind.i64 i, Value.pointer x] w' fun (v : Value)
 (w' : World) => ∃ (x : Option Addr) (x_14 x_15 : Nat) (x_16 : Int) (x_17 : Bool), v = Value.tuple #[Value.slice x x_14 x_15, Value.int IntKind.i64 x_16, Value.bool x_17] ∧ K (Value.tuple #[Value.slice
 x x_14 x_15, Value.int IntKind.i64 x_16, Value.bool x_17]) w' else ∃ (a_5 : Addr), x = some a_5 ∧ ∃ (S : World → Prop), S (World.drew w) ∧ ∃ (x_11 : Option Addr) (x_12 x_13 : Nat), (∀ (u :
 World), S u → World.cell? u (Addr.add a_5 0) = some (Value.slice x_11 x_12 x_13)) ∧ ∃ (a_6 : Addr), x = some a_6 ∧ ∃ (x_14 : Option Addr) (x_15 x_16 : Nat), (∀ (u : World), S u →
 World.cell? u (Addr.add a_6 1) = some (Value.slice x_14 x_15 x_16)) ∧ (∀ (g : Nat) (w' : World), Fresh (World.drew w) g w' [Value.slice key_A key_n key_c] 28 → S w' ∧ (CallsV Try.prog 129
 #[Value.slice x_11 x_12 x_13, Value.int IntKind.i64 x_9, Value.slice (some (Addr.mk g 0 none)) 1 1] w' fun (v : Value) (w' : World) => ∃ (x_17 : Option Addr) (x_18 x_19 : Nat), v =
 Value.slice x_17 x_18 x_19 ∧ S w' ∧ ∀ (g : Nat) (w'_1 : World), Fresh w' g w'_1 [Value.slice val_A val_n val_c] 28 → S w'_1 ∧ CallsV Try.prog 129 #[Value.slice x_14 x_15 x_16, Value.int IntKind.i64
 x_9, Value.slice (some (Addr.mk g 0 none)) 1 1] w'_1 fun (v : Value) (w' : World) => ∃ (x_20 : Option Addr) (x_21 x_22 : Nat), v = Value.slice x_20 x_21 x_22 ∧ ∃ (a_9 : Addr), x =
 some a_9 ∧ stOK (Addr.add a_9 0) 0 [Value.slice x_17 x_18 x_19] w' ∧ ∀ (w'_2 : World), w'_2 = setAll (Addr.add a_9 0) 0 [Value.slice x_17 x_18 x_19] w' → ∃ (a_11 : Addr), x = some a_11 ∧
 stOK (Addr.add a_11 1) 0 [Value.slice x_20 x_21 x_22] w'_2 ∧ ∀ (w' : World), w' = setAll (Addr.add a_11 1) 0 [Value.slice x_20 x_21 x_22] w'_2 → CallsV Try.prog 130 #[Value.pointer a, Value.int
 IntKind.i64 i, Value.pointer x] w' fun (v : Value) (w' : World) => ∃ (x : Option Addr) (x_23 x_24 : Nat) (x_25 : Int) (x_26 : Bool), v = Value.tuple #[Value.slice x x_23 x_24, Value.int IntKind.i64
 x_25, Value.bool x_26] ∧ K (Value.tuple #[Value.slice x x_23 x_24, Value.int IntKind.i64 x_25, Value.bool x_26]) w') ∧ ∀ (g_1 : Nat) (w'_1 : World), Fresh w' g_1 w'_1 [Value.slice val_A val_n val_c] 28
 → S w'_1 ∧ CallsV Try.prog 129 #[Value.slice x_11 x_12 x_13, Value.int IntKind.i64 x_9, Value.slice (some (Addr.mk g 0 none)) 1 1] w'_1 fun (v : Value) (w' : World) => ∃ (x_17 : Option
 Addr) (x_18 x_19 : Nat), v = Value.slice x_17 x_18 x_19 ∧ S w' ∧ CallsV Try.prog 129 #[Value.slice x_14 x_15 x_16, Value.int IntKind.i64 x_9, Value.slice (some (Addr.mk g_1 0 none)) 1 1]
 w' fun (v : Value) (w' : World) => ∃ (x_20 : Option Addr) (x_21 x_22 : Nat), v = Value.slice x_20 x_21 x_22 ∧ ∃ (a_9 : Addr), x = some a_9 ∧ stOK (Addr.add a_9 0) 0 [Value.slice x_17 x_18 x_19]
 w' ∧ ∀ (w'_2 : World), w'_2 = setAll (Addr.add a_9 0) 0 [Value.slice x_17 x_18 x_19] w' → ∃ (a_11 : Addr), x = some a_11 ∧ stOK (Addr.add a_11 1) 0 [Value.slice x_20 x_21 x_22] w'_2 ∧ ∀ (w' :
 World), w' = setAll (Addr.add a_11 1) 0 [Value.slice x_20 x_21 x_22] w'_2 → CallsV Try.prog 130 #[Value.pointer a, Value.int IntKind.i64 i, Value.pointer x] w' fun (v : Value) (w' : World) => ∃ (x :
 Option Addr) (x_23 x_24 : Nat) (x_25 : Int) (x_26 : Bool), v = Value.tuple #[Value.slice x x_23 x_24, Value.int IntKind.i64 x_25, Value.bool x_26] ∧ K (Value.tuple #[Value.slice x x_23 x_24, Value.int
 IntKind.i64 x_25, Value.bool x_26]) w') ∧ ∀ (g : Nat) (w' : World), Fresh (World.drew w) g w' [Value.slice val_A val_n val_c] 28 → S w' ∧ ∀ (g_1 : Nat) (w'_1 : World), Fresh w' g_1 w'_1 [Value.slice
 key_A key_n key_c] 28 → S w'_1 ∧ CallsV Try.prog 129 #[Value.slice x_11 x_12 x_13, Value.int IntKind.i64 x_9, Value.slice (some (Addr.mk g_1 0 none)) 1 1] w'_1 fun (v : Value) (w' :
 World) => ∃ (x_17 : Option Addr) (x_18 x_19 : Nat), v = Value.slice x_17 x_18 x_19 ∧ S w' ∧ CallsV Try.prog 129 #[Value.slice x_14 x_15 x_16, Value.int IntKind.i64 x_9, Value.slice (some
 (Addr.mk g 0 none)) 1 1] w' fun (v : Value) (w' : World) => ∃ (x_20 : Option Addr) (x_21 x_22 : Nat), v = Value.slice x_20 x_21 x_22 ∧ ∃ (a_9 : Addr), x = some a_9 ∧ stOK (Addr.add a_9 0)
 0 [Value.slice x_17 x_18 x_19] w' ∧ ∀ (w'_2 : World), w'_2 = setAll (Addr.add a_9 0) 0 [Value.slice x_17 x_18 x_19] w' → ∃ (a_11 : Addr), x = some a_11 ∧ stOK (Addr.add a_11 1) 0 [Value.slice
 x_20 x_21 x_22] w'_2 ∧ ∀ (w' : World), w' = setAll (Addr.add a_11 1) 0 [Value.slice x_20 x_21 x_22] w'_2 → CallsV Try.prog 130 #[Value.pointer a, Value.int IntKind.i64 i, Value.pointer x] w' fun (v :
 Value) (w' : World) => ∃ (x : Option Addr) (x_23 x_24 : Nat) (x_25 : Int) (x_26 : Bool), v = Value.tuple #[Value.slice x x_23 x_24, Value.int IntKind.i64 x_25, Value.bool x_26] ∧ K (Value.tuple
 #[Value.slice x x_23 x_24, Value.int IntKind.i64 x_25, Value.bool x_26]) w') ∧ ∃ (a : Addr), x = some a ∧ ∃ (S : World → Prop), S (World.drew w') ∧ ∃ (x_11 : Option Addr) (x_12 x_13 : Nat), (∀
 (u : World), S u → World.cell? u (Addr.add a 0) = some (Value.slice x_11 x_12 x_13)) ∧ ∃ (a : Addr), x = some a ∧ ∃ (x : Option Addr) (x_14 x_15 : Nat), (∀ (u : World), S u → World.cell?
 u (Addr.add a 1) = some (Value.slice x x_14 x_15)) ∧ CallsV Try.prog 128 #[Value.slice x_11 x_12 x_13] (World.drew w') fun (v : Value) (w' : World) => ∃ (x_16 : Option Addr) (x_17 x_18 : Nat), v
 = Value.slice x_16 x_17 x_18 ∧ S w' ∧ CallsV Try.prog 128 #[Value.slice x x_14 x_15] w' fun (v : Value) (w' : World) => ∃ (x : Option Addr) (x_19 x_20 : Nat), v = Value.slice x x_19 x_20 ∧ ∀ (g : Nat)
 (w'_1 : World), Fresh w' g w'_1 [Value.slice x_16 x_17 x_18, Value.slice x x_19 x_20, Value.slice none 0 0] 157 → J (some (Addr.mk g 0 none)) w'_1 else CallsV Try.prog 121
 #[Value.pointer x, Value.slice key_A key_n key_c] w fun (v : Value) (w' : World) => ∃ (x_6 : Int), v = Value.int IntKind.i64 x_6 ∧ ∃ (a_3 : Addr), x = some a_3 ∧ ∃ (x_7 : Option Addr) (x_8 x_9 :
 Nat), World.cell? w' (Addr.add a_3 2) = some (Value.slice x_7 x_8 x_9) ∧ ∃ (ad : Addr), x_7 = some ad ∧ ((0 : Int) ≤ x_6 ∧ x_6 < (↑x_8 : Int)) ∧ ∃ (x_10 : Int), World.cell? w' (Addr.add
 ad (Int.toNat x_6 * 1)) = some (Value.int IntKind.i64 x_10) ∧ CallsV Try.prog 113 #[Value.pointer a, Value.int IntKind.i64 x_10, Value.slice key_A key_n key_c, Value.slice val_A val_n val_c] w'
 fun (v : Value) (w' : World) => ∃ (x_11 : Option Addr) (x_12 x_13 : Nat) (x_14 : Int) (x_15 : Bool), v = Value.tuple #[Value.slice x_11 x_12 x_13, Value.int IntKind.i64 x_14, Value.bool x_15] ∧ bif
 !x_15 then K (Value.tuple #[Value.slice none 0 0, Value.int IntKind.i64 (0 : Int), Value.bool false]) w' else ∃ (a_4 : Addr), x = some a_4 ∧ ∃ (S : World → Prop), S (World.drew w') ∧
 ∃ (x_16 : Option Addr) (x_17 x_18 : Nat), (∀ (u : World), S u → World.cell? u (Addr.add a_4 0) = some (Value.slice x_16 x_17 x_18)) ∧ ∃ (a_5 : Addr), x = some a_5 ∧ ∃ (x : Option Addr)
 (x_19 x_20 : Nat), (∀ (u : World), S u → World.cell? u (Addr.add a_5 2) = some (Value.slice x x_19 x_20)) ∧ (CallsV Try.prog 128 #[Value.slice x_16 x_17 x_18] (World.drew w') fun (v : Value) (w'
 : World) => ∃ (x_21 : Option Addr) (x_22 x_23 : Nat), v = Value.slice x_21 x_22 x_23 ∧ S w' ∧ (∀ (g : Nat) (w'_1 : World), Fresh w' g w'_1 [Value.slice x_11 x_12 x_13] 28 → S w'_1 ∧ (CallsV Try.prog
 129 #[Value.slice x_21 x_22 x_23, Value.int IntKind.i64 x_6, Value.slice (some (Addr.mk g 0 none)) 1 1] w'_1 fun (v : Value) (w' : World) => ∃ (x_24 : Option Addr) (x_25 x_26 : Nat), v =
 Value.slice x_24 x_25 x_26 ∧ S w' ∧ (CallsV Try.prog 72 #[Value.slice x x_19 x_20] w' fun (v : Value) (w' : World) => ∃ (x : Option Addr) (x_27 x_28 : Nat), v = Value.slice x x_27 x_28 ∧ ∀ (g : Nat)
 (w'_2 : World), Fresh w' g w'_2 [Value.int IntKind.i64 x_14] 3 → CallsV Try.prog 131 #[Value.slice x x_27 x_28, Value.int IntKind.i64 (IntKind.wrap IntKind.i64 (x_6 + (1 : Int))), Value.slice
 (some (Addr.mk g 0 none)) 1 1] w'_2 fun (v : Value) (w' : World) => ∃ (x : Option Addr) (x_29 x_30 : Nat), v = Value.slice x x_29 x_30 ∧ ∀ (g : Nat) (w'_3 : World), Fresh w' g w'_3
 [Value.slice x_24 x_25 x_26, Value.slice none 0 0, Value.slice x x_29 x_30] 157 → CallsV Try.prog 130 #[Value.pointer a, Value.int IntKind.i64 i, Value.pointer (some (Addr.mk g 0
 none))] w'_3 fun (v : Value) (w' : World) => ∃ (x : Option Addr) (x_31 x_32 : Nat) (x_33 : Int) (x_34 : Bool), v = Value.tuple #[Value.slice x x_31 x_32, Value.int IntKind.i64 x_33, Value.bool
 x_34] ∧ K (Value.tuple #[Value.slice x x_31 x_32, Value.int IntKind.i64 x_33, Value.bool x_34]) w') ∧ ∀ (g : Nat) (w'_2 : World), Fresh w' g w'_2 [Value.int IntKind.i64 x_14] 3 → S w'_2 ∧ CallsV
 Try.prog 72 #[Value.slice x x_19 x_20] w'_2 fun (v : Value) (w' : World) => ∃ (x : Option Addr) (x_27 x_28 : Nat), v = Value.slice x x_27 x_28 ∧ CallsV Try.prog 131 #[Value.slice x x_27 x_28, Value.int
 IntKind.i64 (IntKind.wrap IntKind.i64 (x_6 + (1 : Int))), Value.slice (some (Addr.mk g 0 none)) 1 1] w' fun (v : Value) (w' : World) => ∃ (x : Option Addr) (x_29 x_30 : Nat), v =
 Value.slice x x_29 x_30 ∧ ∀ (g : Nat) (w'_3 : World), Fresh w' g w'_3 [Value.slice x_24 x_25 x_26, Value.slice none 0 0, Value.slice x x_29 x_30] 157 → CallsV Try.prog 130 #[Value.pointer a,
 Value.int IntKind.i64 i, Value.pointer (some (Addr.mk g 0 none))] w'_3 fun (v : Value) (w' : World) => ∃ (x : Option Addr) (x_31 x_32 : Nat) (x_33 : Int) (x_34 : Bool), v = Value.tuple
 #[Value.slice x x_31 x_32, Value.int IntKind.i64 x_33, Value.bool x_34] ∧ K (Value.tuple #[Value.slice x x_31 x_32, Value.int IntKind.i64 x_33, Value.bool x_34]) w') ∧ ∀ (g_1 : Nat) (w' : World), Fresh
 w'_1 g_1 w' [Value.int IntKind.i64 x_14] 3 → S w' ∧ CallsV Try.prog 129 #[Value.slice x_21 x_22 x_23, Value.int IntKind.i64 x_6, Value.slice (some (Addr.mk g 0 none)) 1 1] w' fun (v :
 Value) (w' : World) => ∃ (x_24 : Option Addr) (x_25 x_26 : Nat), v = Value.slice x_24 x_25 x_26 ∧ S w' ∧ CallsV Try.prog 72 #[Value.slice x x_19 x_20] w' fun (v : Value) (w' : World) => ∃ (x : Option
 Addr) (x_27 x_28 : Nat), v = Value.slice x x_27 x_28 ∧ CallsV Try.prog 131 #[Value.slice x x_27 x_28, Value.int IntKind.i64 (IntKind.wrap IntKind.i64 (x_6 + (1 : Int))), Value.slice (some
 (Addr.mk g_1 0 none)) 1 1] w' fun (v : Value) (w' : World) => ∃ (x : Option Addr) (x_29 x_30 : Nat), v = Value.slice x x_29 x_30 ∧ ∀ (g : Nat) (w'_2 : World), Fresh w' g w'_2 [Value.slice x_24
 x_25 x_26, Value.slice none 0 0, Value.slice x x_29 x_30] 157 → CallsV Try.prog 130 #[Value.pointer a, Value.int IntKind.i64 i, Value.pointer (some (Addr.mk g 0 none))] w'_2 fun (v
 : Value) (w' : World) => ∃ (x : Option Addr) (x_31 x_32 : Nat) (x_33 : Int) (x_34 : Bool), v = Value.tuple #[Value.slice x x_31 x_32, Value.int IntKind.i64 x_33, Value.bool x_34] ∧ K (Value.tuple
 #[Value.slice x x_31 x_32, Value.int IntKind.i64 x_33, Value.bool x_34]) w') ∧ ∀ (g : Nat) (w'_1 : World), Fresh w' g w'_1 [Value.int IntKind.i64 x_14] 3 → S w'_1 ∧ ∀ (g_1 : Nat) (w' : World), Fresh
 w'_1 g_1 w' [Value.slice x_11 x_12 x_13] 28 → S w' ∧ CallsV Try.prog 129 #[Value.slice x_21 x_22 x_23, Value.int IntKind.i64 x_6, Value.slice (some (Addr.mk g_1 0 none)) 1 1] w' fun (v :
 Value) (w' : World) => ∃ (x_24 : Option Addr) (x_25 x_26 : Nat), v = Value.slice x_24 x_25 x_26 ∧ S w' ∧ CallsV Try.prog 72 #[Value.slice x x_19 x_20] w' fun (v : Value) (w' : World) => ∃ (x : Option
 Addr) (x_27 x_28 : Nat), v = Value.slice x x_27 x_28 ∧ CallsV Try.prog 131 #[Value.slice x x_27 x_28, Value.int IntKind.i64 (IntKind.wrap IntKind.i64 (x_6 + (1 : Int))), Value.slice (some
 (Addr.mk g 0 none)) 1 1] w' fun (v : Value) (w' : World) => ∃ (x : Option Addr) (x_29 x_30 : Nat), v = Value.slice x x_29 x_30 ∧ ∀ (g : Nat) (w'_2 : World), Fresh w' g w'_2 [Value.slice x_24
 x_25 x_26, Value.slice none 0 0, Value.slice x x_29 x_30] 157 → CallsV Try.prog 130 #[Value.pointer a, Value.int IntKind.i64 i, Value.pointer (some (Addr.mk g 0 none))] w'_2 fun (v
 : Value) (w' : World) => ∃ (x : Option Addr) (x_31 x_32 : Nat) (x_33 : Int) (x_34 : Bool), v = Value.tuple #[Value.slice x x_31 x_32, Value.int IntKind.i64 x_33, Value.bool x_34] ∧ K (Value.tuple
 #[Value.slice x x_31 x_32, Value.int IntKind.i64 x_33, Value.bool x_34]) w') ∧ (∀ (g : Nat) (w'_1 : World), Fresh (World.drew w') g w'_1 [Value.slice x_11 x_12 x_13] 28 → S w'_1 ∧ (CallsV Try.prog 128
 #[Value.slice x_16 x_17 x_18] w'_1 fun (v : Value) (w' : World) => ∃ (x_21 : Option Addr) (x_22 x_23 : Nat), v = Value.slice x_21 x_22 x_23 ∧ S w' ∧ (CallsV Try.prog 129 #[Value.slice x_21 x_22 x_23,
 Value.int IntKind.i64 x_6, Value.slice (some (Addr.mk g 0 none)) 1 1] w' fun (v : Value) (w' : World) => ∃ (x_24 : Option Addr) (x_25 x_26 : Nat), v = Value.slice x_24 x_25 x_26 ∧ S w' ∧
 (CallsV Try.prog 72 #[Value.slice x x_19 x_20] w' fun (v : Value) (w' : World) => ∃ (x : Option Addr) (x_27 x_28 : Nat), v = Value.slice x x_27 x_28 ∧ ∀ (g : Nat) (w'_2 : World), Fresh w' g w'_2
 [Value.int IntKind.i64 x_14] 3 → CallsV Try.prog 131 #[Value.slice x x_27 x_28, Value.int IntKind.i64 (IntKind.wrap IntKind.i64 (x_6 + (1 : Int))), Value.slice (some (Addr.mk g 0 none)) 1
 1] w'_2 fun (v : Value) (w' : World) => ∃ (x : Option Addr) (x_29 x_30 : Nat), v = Value.slice x x_29 x_30 ∧ ∀ (g : Nat) (w'_3 : World), Fresh w' g w'_3 [Value.slice x_24 x_25 x_26, Value.slice
 none 0 0, Value.slice x x_29 x_30] 157 → CallsV Try.prog 130 #[Value.pointer a, Value.int IntKind.i64 i, Value.pointer (some (Addr.mk g 0 none))] w'_3 fun (v : Value) (w' : World)
 => ∃ (x : Option Addr) (x_31 x_32 : Nat) (x_33 : Int) (x_34 : Bool), v = Value.tuple #[Value.slice x x_31 x_32, Value.int IntKind.i64 x_33, Value.bool x_34] ∧ K (Value.tuple #[Value.slice x x_31 x_32,
 Value.int IntKind.i64 x_33, Value.bool x_34]) w') ∧ ∀ (g : Nat) (w'_2 : World), Fresh w' g w'_2 [Value.int IntKind.i64 x_14] 3 → S w'_2 ∧ CallsV Try.prog 72 #[Value.slice x x_19 x_20] w'_2 fun (v :
 Value) (w' : World) => ∃ (x : Option Addr) (x_27 x_28 : Nat), v = Value.slice x x_27 x_28 ∧ CallsV Try.prog 131 #[Value.slice x x_27 x_28, Value.int IntKind.i64 (IntKind.wrap IntKind.i64 (x_6 + (1 :
 Int))), Value.slice (some (Addr.mk g 0 none)) 1 1] w' fun (v : Value) (w' : World) => ∃ (x : Option Addr) (x_29 x_30 : Nat), v = Value.slice x x_29 x_30 ∧ ∀ (g : Nat) (w'_3 : World),
 Fresh w' g w'_3 [Value.slice x_24 x_25 x_26, Value.slice none 0 0, Value.slice x x_29 x_30] 157 → CallsV Try.prog 130 #[Value.pointer a, Value.int IntKind.i64 i, Value.pointer (some
 (Addr.mk g 0 none))] w'_3 fun (v : Value) (w' : World) => ∃ (x : Option Addr) (x_31 x_32 : Nat) (x_33 : Int) (x_34 : Bool), v = Value.tuple #[Value.slice x x_31 x_32, Value.int IntKind.i64 x_33,
 Value.bool x_34] ∧ K (Value.tuple #[Value.slice x x_31 x_32, Value.int IntKind.i64 x_33, Value.bool x_34]) w') ∧ ∀ (g_1 : Nat) (w'_2 : World), Fresh w' g_1 w'_2 [Value.int IntKind.i64 x_14] 3 → S w'_2
 ∧ CallsV Try.prog 129 #[Value.slice x_21 x_22 x_23, Value.int IntKind.i64 x_6, Value.slice (some (Addr.mk g 0 none)) 1 1] w'_2 fun (v : Value) (w' : World) => ∃ (x_24 : Option Addr) (x_25
 x_26 : Nat), v = Value.slice x_24 x_25 x_26 ∧ S w' ∧ CallsV Try.prog 72 #[Value.slice x x_19 x_20] w' fun (v : Value) (w' : World) => ∃ (x : Option Addr) (x_27 x_28 : Nat), v = Value.slice x x_27 x_28
 ∧ CallsV Try.prog 131 #[Value.slice x x_27 x_28, Value.int IntKind.i64 (IntKind.wrap IntKind.i64 (x_6 + (1 : Int))), Value.slice (some (Addr.mk g_1 0 none)) 1 1] w' fun (v : Value) (w' :
 World) => ∃ (x : Option Addr) (x_29 x_30 : Nat), v = Value.slice x x_29 x_30 ∧ ∀ (g : Nat) (w'_3 : World), Fresh w' g w'_3 [Value.slice x_24 x_25 x_26, Value.slice none 0 0, Value.slice x x_29
 x_30] 157 → CallsV Try.prog 130 #[Value.pointer a, Value.int IntKind.i64 i, Value.pointer (some (Addr.mk g 0 none))] w'_3 fun (v : Value) (w' : World) => ∃ (x : Option Addr) (x_31 x_32 :
 Nat) (x_33 : Int) (x_34 : Bool), v = Value.tuple #[Value.slice x x_31 x_32, Value.int IntKind.i64 x_33, Value.bool x_34] ∧ K (Value.tuple #[Value.slice x x_31 x_32, Value.int IntKind.i64 x_33,
 Value.bool x_34]) w') ∧ ∀ (g_1 : Nat) (w' : World), Fresh w'_1 g_1 w' [Value.int IntKind.i64 x_14] 3 → S w' ∧ CallsV Try.prog 128 #[Value.slice x_16 x_17 x_18] w' fun (v : Value) (w' : World) => ∃
 (x_21 : Option Addr) (x_22 x_23 : Nat), v = Value.slice x_21 x_22 x_23 ∧ S w' ∧ CallsV Try.prog 129 #[Value.slice x_21 x_22 x_23, Value.int IntKind.i64 x_6, Value.slice (some (Addr.mk g 0
 none)) 1 1] w' fun (v : Value) (w' : World) => ∃ (x_24 : Option Addr) (x_25 x_26 : Nat), v = Value.slice x_24 x_25 x_26 ∧ S w' ∧ CallsV Try.prog 72 #[Value.slice x x_19 x_20] w' fun (v : Value)
 (w' : World) => ∃ (x : Option Addr) (x_27 x_28 : Nat), v = Value.slice x x_27 x_28 ∧ CallsV Try.prog 131 #[Value.slice x x_27 x_28, Value.int IntKind.i64 (IntKind.wrap IntKind.i64 (x_6 + (1 : Int))),
 Value.slice (some (Addr.mk g_1 0 none)) 1 1] w' fun (v : Value) (w' : World) => ∃ (x : Option Addr) (x_29 x_30 : Nat), v = Value.slice x x_29 x_30 ∧ ∀ (g : Nat) (w'_2 : World), Fresh w' g
 w'_2 [Value.slice x_24 x_25 x_26, Value.slice none 0 0, Value.slice x x_29 x_30] 157 → CallsV Try.prog 130 #[Value.pointer a, Value.int IntKind.i64 i, Value.pointer (some (Addr.mk g 0
 none))] w'_2 fun (v : Value) (w' : World) => ∃ (x : Option Addr) (x_31 x_32 : Nat) (x_33 : Int) (x_34 : Bool), v = Value.tuple #[Value.slice x x_31 x_32, Value.int IntKind.i64 x_33, Value.bool
 x_34] ∧ K (Value.tuple #[Value.slice x x_31 x_32, Value.int IntKind.i64 x_33, Value.bool x_34]) w') ∧ ∀ (g : Nat) (w'_1 : World), Fresh (World.drew w') g w'_1 [Value.int IntKind.i64 x_14] 3 → S w'_1 ∧
 (CallsV Try.prog 128 #[Value.slice x_16 x_17 x_18] w'_1 fun (v : Value) (w' : World) => ∃ (x_21 : Option Addr) (x_22 x_23 : Nat), v = Value.slice x_21 x_22 x_23 ∧ S w' ∧ ∀ (g_1 : Nat) (w'_2 : World),
 Fresh w' g_1 w'_2 [Value.slice x_11 x_12 x_13] 28 → S w'_2 ∧ CallsV Try.prog 129 #[Value.slice x_21 x_22 x_23, Value.int IntKind.i64 x_6, Value.slice (some (Addr.mk g_1 0 none)) 1 1] w'_2
 fun (v : Value) (w' : World) => ∃ (x_24 : Option Addr) (x_25 x_26 : Nat), v = Value.slice x_24 x_25 x_26 ∧ S w' ∧ CallsV Try.prog 72 #[Value.slice x x_19 x_20] w' fun (v : Value) (w' : World) => ∃ (x :
 Option Addr) (x_27 x_28 : Nat), v = Value.slice x x_27 x_28 ∧ CallsV Try.prog 131 #[Value.slice x x_27 x_28, Value.int IntKind.i64 (IntKind.wrap IntKind.i64 (x_6 + (1 : Int))), Value.slice (some
 (Addr.mk g 0 none)) 1 1] w' fun (v : Value) (w' : World) => ∃ (x : Option Addr) (x_29 x_30 : Nat), v = Value.slice x x_29 x_30 ∧ ∀ (g : Nat) (w'_3 : World), Fresh w' g w'_3 [Value.slice x_24
 x_25 x_26, Value.slice none 0 0, Value.slice x x_29 x_30] 157 → CallsV Try.prog 130 #[Value.pointer a, Value.int IntKind.i64 i, Value.pointer (some (Addr.mk g 0 none))] w'_3 fun (v
 : Value) (w' : World) => ∃ (x : Option Addr) (x_31 x_32 : Nat) (x_33 : Int) (x_34 : Bool), v = Value.tuple #[Value.slice x x_31 x_32, Value.int IntKind.i64 x_33, Value.bool x_34] ∧ K (Value.tuple
 #[Value.slice x x_31 x_32, Value.int IntKind.i64 x_33, Value.bool x_34]) w') ∧ ∀ (g_1 : Nat) (w' : World), Fresh w'_1 g_1 w' [Value.slice x_11 x_12 x_13] 28 → S w' ∧ CallsV Try.prog 128 #[Value.slice
 x_16 x_17 x_18] w' fun (v : Value) (w' : World) => ∃ (x_21 : Option Addr) (x_22 x_23 : Nat), v = Value.slice x_21 x_22 x_23 ∧ S w' ∧ CallsV Try.prog 129 #[Value.slice x_21 x_22 x_23, Value.int
 IntKind.i64 x_6, Value.slice (some (Addr.mk g_1 0 none)) 1 1] w' fun (v : Value) (w' : World) => ∃ (x_24 : Option Addr) (x_25 x_26 : Nat), v = Value.slice x_24 x_25 x_26 ∧ S w' ∧ CallsV
 Try.prog 72 #[Value.slice x x_19 x_20] w' fun (v : Value) (w' : World) => ∃ (x : Option Addr) (x_27 x_28 : Nat), v = Value.slice x x_27 x_28 ∧ CallsV Try.prog 131 #[Value.slice x x_27 x_28, Value.int
 IntKind.i64 (IntKind.wrap IntKind.i64 (x_6 + (1 : Int))), Value.slice (some (Addr.mk g 0 none)) 1 1] w' fun (v : Value) (w' : World) => ∃ (x : Option Addr) (x_29 x_30 : Nat), v =
 Value.slice x x_29 x_30 ∧ ∀ (g : Nat) (w'_2 : World), Fresh w' g w'_2 [Value.slice x_24 x_25 x_26, Value.slice none 0 0, Value.slice x x_29 x_30] 157 → CallsV Try.prog 130 #[Value.pointer a,
 Value.int IntKind.i64 i, Value.pointer (some (Addr.mk g 0 none))] w'_2 fun (v : Value) (w' : World) => ∃ (x : Option Addr) (x_31 x_32 : Nat) (x_33 : Int) (x_34 : Bool), v = Value.tuple
 #[Value.slice x x_31 x_32, Value.int IntKind.i64 x_33, Value.bool x_34] ∧ K (Value.tuple #[Value.slice x x_31 x_32, Value.int IntKind.i64 x_33, Value.bool x_34]) w'
theorem tree_Arena_put.calls (ok : Okay Try.prog) {a : Option Addr} {i : Int} {key_A : Option Addr} {key_n : Nat} {key_c : Nat} {val_A : Option Addr} {val_n : Nat} {val_c : Nat} {w : World} {K : Value → World → Prop} (h : tree_Arena_put.W a i key_A key_n key_c val_A val_n val_c w K) : CallsV Try.prog 113 #[.pointer a, .int .i64 i, .slice key_A key_n key_c, .slice val_A val_n val_c] w K :=
  fnW_calls ok Try.func113 (an := (.named (.seq .auto (.seq .auto (.seq (.seq .auto (.cond (.seq .auto (.join [(14, .one .ptr)] .auto .auto)) .auto)) .auto))))) (args := [.pointer a, .int .i64 i, .slice key_A key_n key_c, .slice val_A val_n val_c]) (Eq.mp (by kernel_rfl) h)
noncomputable def tree_Arena_shape.W : Option Addr → Int → Option Addr → Nat → Nat → Option Addr → Nat → Nat → Bool → World → (Value → World → Prop) → Prop := fun (a : Option Addr) (i : Int) (lo_A :
 Option Addr) (lo_n lo_c : Nat) (hi_A : Option Addr) (hi_n hi_c : Nat) (top : Bool) (w : World) (K : Value → World → Prop) => ∃ (a_1 : Addr), a = some a_1 ∧ ∃ (x : Option Addr) (x_1 x_2 : Nat),
 World.cell? w (Addr.add a_1 2) = some (Value.slice x x_1 x_2) ∧ ∃ (ad : Addr), x = some ad ∧ ((0 : Int) ≤ i ∧ i < (↑x_1 : Int)) ∧ ∃ (x : Option Addr), World.cell? w (Addr.add ad
 (Int.toNat i * 1)) = some (Value.pointer x) ∧ ∃ (J : World → Prop), (∀ (w : World), J w → ∃ (a_3 : Addr), x = some a_3 ∧ ∃ (x_3 : Option Addr) (x_4 x_5 : Nat), World.cell? w (Addr.add a_3
 0) = some (Value.slice x_3 x_4 x_5) ∧ ∃ (I : Int → World → Prop) (μ : Int → World → Nat), I (0 : Int) w ∧ ∀ (x_6 : Int) (w : World), I x_6 w → bif decide (x_6 < (↑x_4 : Int)) then ∃
 (ad : Addr), x_3 = some ad ∧ ((0 : Int) ≤ x_6 ∧ x_6 < (↑x_4 : Int)) ∧ ∃ (x_7 : Option Addr) (x_8 x_9 : Nat), World.cell? w (Addr.add ad (Int.toNat x_6 * 1)) = some (Value.slice x_7 x_8
 x_9) ∧ bif decide ((0 : Int) < x_6) then ∃ (a : Addr), x = some a ∧ ∃ (x : Option Addr) (x_10 x_11 : Nat), World.cell? w (Addr.add a 0) = some (Value.slice x x_10 x_11) ∧ ∃ (ad
 : Addr), x = some ad ∧ ((0 : Int) ≤ IntKind.wrap IntKind.i64 (x_6 - (1 : Int)) ∧ IntKind.wrap IntKind.i64 (x_6 - (1 : Int)) < (↑x_10 : Int)) ∧ ∃ (x : Option Addr) (x_12 x_13 : Nat), World.cell?
 w (Addr.add ad (Int.toNat (IntKind.wrap IntKind.i64 (x_6 - (1 : Int))) * 1)) = some (Value.slice x x_12 x_13) ∧ CallsV Try.prog 111 #[Value.slice x x_12 x_13, Value.slice x_7 x_8 x_9] w fun (v :
 Value) (w' : World) => ∃ (x : Int), v = Value.int IntKind.i64 x ∧ bif decide ((0 : Int) ≤ x) then K (Value.int IntKind.i64 (0 : Int)) w' else bif !Option.isNone lo_A then CallsV Try.prog 111
 #[Value.slice x_7 x_8 x_9, Value.slice lo_A lo_n lo_c] w' fun (v : Value) (w' : World) => ∃ (x : Int), v = Value.int IntKind.i64 x ∧ bif decide (x < (0 : Int)) then K (Value.int IntKind.i64
 (0 : Int)) w' else bif !Option.isNone hi_A then CallsV Try.prog 111 #[Value.slice x_7 x_8 x_9, Value.slice hi_A hi_n hi_c] w' fun (v : Value) (w' : World) => ∃ (x : Int), v = Value.int IntKind.i64 x ∧
 bif decide ((0 : Int) ≤ x) then K (Value.int IntKind.i64 (0 : Int)) w' else I (IntKind.wrap IntKind.i64 (x_6 + (1 : Int))) w' ∧ μ (IntKind.wrap IntKind.i64 (x_6 + (1 : Int))) w' < μ x_6 w
 else I (IntKind.wrap IntKind.i64 (x_6 + (1 : Int))) w' ∧ μ (IntKind.wrap IntKind.i64 (x_6 + (1 : Int))) w' < μ x_6 w else bif !Option.isNone hi_A then CallsV Try.prog 111 #[Value.slice x_7 x_8 x_9,
 Value.slice hi_A hi_n hi_c] w' fun (v : Value) (w' : World) => ∃ (x : Int), v = Value.int IntKind.i64 x ∧ bif decide ((0 : Int) ≤ x) then K (Value.int IntKind.i64 (0 : Int)) w' else I
 (IntKind.wrap IntKind.i64 (x_6 + (1 : Int))) w' ∧ μ (IntKind.wrap IntKind.i64 (x_6 + (1 : Int))) w' < μ x_6 w else I (IntKind.wrap IntKind.i64 (x_6 + (1 : Int))) w' ∧ μ (IntKind.wrap IntKind.i64 (x_6 +
 (1 : Int))) w' < μ x_6 w else bif !Option.isNone lo_A then CallsV Try.prog 111 #[Value.slice x_7 x_8 x_9, Value.slice lo_A lo_n lo_c] w fun (v : Value) (w' : World) => ∃ (x : Int), v = Value.int
 IntKind.i64 x ∧ bif decide (x < (0 : Int)) then K (Value.int IntKind.i64 (0 : Int)) w' else bif !Option.isNone hi_A then CallsV Try.prog 111 #[Value.slice x_7 x_8 x_9, Value.slice hi_A hi_n
 hi_c] w' fun (v : Value) (w' : World) => ∃ (x : Int), v = Value.int IntKind.i64 x ∧ bif decide ((0 : Int) ≤ x) then K (Value.int IntKind.i64 (0 : Int)) w' else I (IntKind.wrap IntKind.i64
 (x_6 + (1 : Int))) w' ∧ μ (IntKind.wrap IntKind.i64 (x_6 + (1 : Int))) w' < μ x_6 w else I (IntKind.wrap IntKind.i64 (x_6 + (1 : Int))) w' ∧ μ (IntKind.wrap IntKind.i64 (x_6 + (1 : Int))) w' < μ x_6 w
 else bif !Option.isNone hi_A then CallsV Try.prog 111 #[Value.slice x_7 x_8 x_9, Value.slice hi_A hi_n hi_c] w fun (v : Value) (w' : World) => ∃ (x : Int), v = Value.int IntKind.i64 x ∧ bif
 decide ((0 : Int) ≤ x) then K (Value.int IntKind.i64 (0 : Int)) w' else I (IntKind.wrap IntKind.i64 (x_6 + (1 : Int))) w' ∧ μ (IntKind.wrap IntKind.i64 (x_6 + (1 : Int))) w' < μ x_6 w else I
 (IntKind.wrap IntKind.i64 (x_6 + (1 : Int))) w ∧ μ (IntKind.wrap IntKind.i64 (x_6 + (1 : Int))) w < μ x_6 w else ∃ (a_5 : Addr), x = some a_5 ∧ ∃ (x_7 : Option Addr) (x_8 x_9 : Nat), World.cell?
 w (Addr.add a_5 2) = some (Value.slice x_7 x_8 x_9) ∧ bif Option.isNone x_7 then K (Value.int IntKind.i64 (1 : Int)) w else ∃ (a_6 : Addr), x = some a_6 ∧ ∃ (S : World → Prop), S
 (World.drew w) ∧ ∃ (x_10 : Option Addr) (x_11 x_12 : Nat), (∀ (u : World), S u → World.cell? u (Addr.add a_6 0) = some (Value.slice x_10 x_11 x_12)) ∧ ∃ (a_7 : Addr), x = some a_7 ∧ ∃
 (x_13 : Option Addr) (x_14 x_15 : Nat), (∀ (u : World), S u → World.cell? u (Addr.add a_7 2) = some (Value.slice x_13 x_14 x_15)) ∧ bif !decide ((↑x_11 : Int) = IntKind.wrap
 IntKind.i64 ((↑x_14 : Int) - (1 : Int))) then K (Value.int IntKind.i64 (0 : Int)) (World.drew w) else ∃ (a_8 : Addr), x = some a_8 ∧ ∃ (x_16 : Option Addr) (x_17 x_18 : Nat), World.cell?
 (World.drew w) (Addr.add a_8 2) = some (Value.slice x_16 x_17 x_18) ∧ ∃ (I : Int → Int → World → Prop) (μ : Int → Int → World → Nat), I (0 : Int) (0 : Int) (World.drew w) ∧ ∀ (x_19 x_20 : Int)
 (w : World), I x_19 x_20 w → bif decide (x_20 < (↑x_17 : Int)) then ∃ (ad : Addr), x_16 = some ad ∧ ((0 : Int) ≤ x_20 ∧ x_20 < (↑x_17 : Int)) ∧ ∃ (x_21 : Int), World.cell? w (Addr.add
 ad (Int.toNat x_20 * 1)) = some (Value.int IntKind.i64 x_21) ∧ ∃ (J : Option Addr → Nat → Nat → World → Prop), (∀ (x_22 : Option Addr) (x_23 x_24 : Nat) (w_1 : World), J x_22 x_23 x_24 w_1 → ∃
 (J : Option Addr → Nat → Nat → World → Prop), (∀ (x : Option Addr) (x_25 x_26 : Nat) (w_2 : World), J x x_25 x_26 w_2 → CallsV Try.prog 119 #[Value.pointer a, Value.int IntKind.i64 x_21, Value.slice
 x_22 x_23 x_24, Value.slice x x_25 x_26, Value.bool false] w_2 fun (v : Value) (w' : World) => ∃ (x : Int), v = Value.int IntKind.i64 x ∧ bif decide (x = (0 : Int)) then K (Value.int
 IntKind.i64 (0 : Int)) w' else bif decide ((0 : Int) < x_20) then bif !decide (x = x_19) then K (Value.int IntKind.i64 (0 : Int)) w' else I x (IntKind.wrap IntKind.i64 (x_20 + (1 :
 Int))) w' ∧ μ x (IntKind.wrap IntKind.i64 (x_20 + (1 : Int))) w' < μ x_19 x_20 w else I x (IntKind.wrap IntKind.i64 (x_20 + (1 : Int))) w' ∧ μ x (IntKind.wrap IntKind.i64 (x_20 + (1 : Int))) w' < μ
 x_19 x_20 w) ∧ ∃ (a : Addr), x = some a ∧ ∃ (x_25 : Option Addr) (x_26 x_27 : Nat), World.cell? w_1 (Addr.add a 0) = some (Value.slice x_25 x_26 x_27) ∧ bif decide (x_20 <
 (↑x_26 : Int)) then ∃ (a : Addr), x = some a ∧ ∃ (x : Option Addr) (x_28 x_29 : Nat), World.cell? w_1 (Addr.add a 0) = some (Value.slice x x_28 x_29) ∧ ∃ (ad : Addr), x = some ad ∧
 ((0 : Int) ≤ x_20 ∧ x_20 < (↑x_28 : Int)) ∧ ∃ (x : Option Addr) (x_30 x_31 : Nat), World.cell? w_1 (Addr.add ad (Int.toNat x_20 * 1)) = some (Value.slice x x_30 x_31) ∧ J x x_30 x_31 w_1 else J
 hi_A hi_n hi_c w_1) ∧ bif decide ((0 : Int) < x_20) then ∃ (a : Addr), x = some a ∧ ∃ (x : Option Addr) (x_22 x_23 : Nat), World.cell? w (Addr.add a 0) = some (Value.slice x
 x_22 x_23) ∧ ∃ (ad : Addr), x = some ad ∧ ((0 : Int) ≤ IntKind.wrap IntKind.i64 (x_20 - (1 : Int)) ∧ IntKind.wrap IntKind.i64 (x_20 - (1 : Int)) < (↑x_22 : Int)) ∧ ∃ (x : Option Addr) (x_24 x_25
 : Nat), World.cell? w (Addr.add ad (Int.toNat (IntKind.wrap IntKind.i64 (x_20 - (1 : Int))) * 1)) = some (Value.slice x x_24 x_25) ∧ J x x_24 x_25 w else J lo_A lo_n lo_c w else K (Value.int
 IntKind.i64 (IntKind.wrap IntKind.i64 (x_19 + (1 : Int)))) w) ∧ bif Option.isNone x then K (Value.int IntKind.i64 (0 : Int)) (World.drew w) else ∃ (a_2 : Addr), a = some a_2 ∧ ∃ (S : World →
 Prop), S (World.drew w) ∧ ∃ (x_3 : Int), (∀ (u : World), S u → World.cell? u (Addr.add a_2 0) = some (Value.int IntKind.i64 x_3)) ∧ CallsV Try.prog 127 #[Value.pointer x] (World.drew w) fun (v :
 Value) (w' : World) => ∃ (x_4 : Int), v = Value.int IntKind.i64 x_4 ∧ S w' ∧ bif decide (x_3 < x_4) then K (Value.int IntKind.i64 (0 : Int)) w' else bif !top then ∃ (a_3 : Addr), a =
 some a_3 ∧ ∃ (S_1 : World → Prop), S_1 w' ∧ ∃ (x_5 : Int), (∀ (u : World), S_1 u → World.cell? u (Addr.add a_3 0) = some (Value.int IntKind.i64 x_5)) ∧ (2 : Int) ≠ (0 : Int) ∧ CallsV
 Try.prog 127 #[Value.pointer x] w' fun (v : Value) (w' : World) => ∃ (x_6 : Int), v = Value.int IntKind.i64 x_6 ∧ S_1 w' ∧ S w' ∧ bif decide (x_6 < IntKind.wrap IntKind.i64 (Int.tdiv x_5 (2 :
 Int))) then K (Value.int IntKind.i64 (0 : Int)) w' else bif top then ∃ (a : Addr), x = some a ∧ ∃ (S_2 : World → Prop), S_2 w' ∧ ∃ (x_7 : Option Addr) (x_8 x_9 : Nat), (∀ (u : World), S_2 u →
 World.cell? u (Addr.add a 2) = some (Value.slice x_7 x_8 x_9)) ∧ bif !Option.isNone x_7 then CallsV Try.prog 127 #[Value.pointer x] w' fun (v : Value) (w' : World) => ∃ (x : Int), v = Value.int
 IntKind.i64 x ∧ S_2 w' ∧ S_1 w' ∧ S w' ∧ bif decide (x < (2 : Int)) then K (Value.int IntKind.i64 (0 : Int)) w' else J w' else J w' else J w' else bif top then ∃ (a : Addr), x = some a
 ∧ ∃ (S_1 : World → Prop), S_1 w' ∧ ∃ (x_5 : Option Addr) (x_6 x_7 : Nat), (∀ (u : World), S_1 u → World.cell? u (Addr.add a 2) = some (Value.slice x_5 x_6 x_7)) ∧ bif !Option.isNone x_5 then
 CallsV Try.prog 127 #[Value.pointer x] w' fun (v : Value) (w' : World) => ∃ (x : Int), v = Value.int IntKind.i64 x ∧ S_1 w' ∧ S w' ∧ bif decide (x < (2 : Int)) then K (Value.int IntKind.i64
 (0 : Int)) w' else J w' else J w' else J w'
theorem tree_Arena_shape.calls (ok : Okay Try.prog) {a : Option Addr} {i : Int} {lo_A : Option Addr} {lo_n : Nat} {lo_c : Nat} {hi_A : Option Addr} {hi_n : Nat} {hi_c : Nat} {top : Bool} {w : World} {K : Value → World → Prop} (h : tree_Arena_shape.W a i lo_A lo_n lo_c hi_A hi_n hi_c top w K) : CallsV Try.prog 119 #[.pointer a, .int .i64 i, .slice lo_A lo_n lo_c, .slice hi_A hi_n hi_c, .bool top] w K :=
  fnW_calls ok Try.func119 (an := (.named (.seq .auto (.seq .auto (.join [] .auto (.seq (.seq .auto (.block (.loop [(72, .one (.int .i64))] .auto))) (.seq .auto (.seq .auto (.seq .auto (.seq (.seq .auto (.block (.loop [(14, .one (.int .i64)), (135, .one (.int .i64))] (.seq .auto (.seq .auto (.seq (.block (.seq .auto (.seq .auto (.join [(17, .one .slc)] .auto (.join [(18, .one .slc)] .auto .auto))))) .auto)))))) .auto)))))))))) (args := [.pointer a, .int .i64 i, .slice lo_A lo_n lo_c, .slice hi_A hi_n hi_c, .bool top]) (Eq.mp (by kernel_rfl) h)
noncomputable def tree_Arena_all.W : Option Addr → Int → World → (Value → World → Prop) → Prop := fun (a : Option Addr) (i : Int) (w : World) (K : Value → World → Prop) => ∀ (g : Nat) (w' : World),
 Fresh w g w' [Value.pointer a] 78 → ∀ (g_1 : Nat) (w'_1 : World), Fresh w' g_1 w'_1 [Value.int IntKind.i64 i] 3 → K (Value.func (Fn.func 133) #[] #[Value.pointer (some (Addr.mk g_1 0
 none)), Value.pointer (some (Addr.mk g 0 none))]) w'_1
theorem tree_Arena_all.calls (ok : Okay Try.prog) {a : Option Addr} {i : Int} {w : World} {K : Value → World → Prop} (h : tree_Arena_all.W a i w K) : CallsV Try.prog 116 #[.pointer a, .int .i64 i] w K :=
  fnW_calls ok Try.func116 (an := (.named .auto)) (args := [.pointer a, .int .i64 i]) (Eq.mp (by kernel_rfl) h)
noncomputable def tree_node_below.W : Option Addr → Option Addr → Nat → Nat → World → (Value → World → Prop) → Prop := fun (n key_A : Option Addr) (key_n key_c : Nat) (w : World) (K : Value → World →
 Prop) => ∃ (a : Addr), n = some a ∧ ∃ (x : Option Addr) (x_1 x_2 : Nat), World.cell? w (Addr.add a 0) = some (Value.slice x x_1 x_2) ∧ CallsV Try.prog 110 #[Value.slice x x_1 x_2,
 Value.slice key_A key_n key_c, Value.func (Fn.func 111) #[] #[]] w fun (v : Value) (w' : World) => ∃ (x : Int) (x_3 : Bool), v = Value.tuple #[Value.int IntKind.i64 x, Value.bool x_3] ∧ bif x_3 then K
 (Value.int IntKind.i64 (IntKind.wrap IntKind.i64 (x + (1 : Int)))) w' else K (Value.int IntKind.i64 x) w'
theorem tree_node_below.calls (ok : Okay Try.prog) {n : Option Addr} {key_A : Option Addr} {key_n : Nat} {key_c : Nat} {w : World} {K : Value → World → Prop} (h : tree_node_below.W n key_A key_n key_c w K) : CallsV Try.prog 121 #[.pointer n, .slice key_A key_n key_c] w K :=
  fnW_calls ok Try.func121 (an := (.named .auto)) (args := [.pointer n, .slice key_A key_n key_c]) (Eq.mp (by kernel_rfl) h)
noncomputable def tree_entry.W : Option Addr → Int → World → (Value → World → Prop) → Prop := fun (n : Option Addr) (k : Int) (w : World) (K : Value → World → Prop) => bif decide (k < (0 :
 Int)) then K (Value.tuple #[Value.slice none 0 0, Value.slice none 0 0, Value.bool false]) w else ∃ (a : Addr), n = some a ∧ ∃ (x : Option Addr) (x_1 x_2 : Nat), World.cell? w
 (Addr.add a 0) = some (Value.slice x x_1 x_2) ∧ bif decide ((↑x_1 : Int) ≤ k) then K (Value.tuple #[Value.slice none 0 0, Value.slice none 0 0, Value.bool false]) w
 else ∃ (a : Addr), n = some a ∧ ∃ (S : World → Prop), S (World.drew w) ∧ ∃ (x : Option Addr) (x_3 x_4 : Nat), (∀ (u : World), S u → World.cell? u (Addr.add a 0) = some (Value.slice x x_3
 x_4)) ∧ ∃ (ad : Addr), x = some ad ∧ ((0 : Int) ≤ k ∧ k < (↑x_3 : Int)) ∧ ∃ (x : Option Addr) (x_5 x_6 : Nat), (∀ (u : World), S u → World.cell? u (Addr.add ad (Int.toNat k * 1)) = some
 (Value.slice x x_5 x_6)) ∧ ∃ (a : Addr), n = some a ∧ ∃ (x_7 : Option Addr) (x_8 x_9 : Nat), (∀ (u : World), S u → World.cell? u (Addr.add a 1) = some (Value.slice x_7 x_8 x_9)) ∧ ∃ (ad :
 Addr), x_7 = some ad ∧ ((0 : Int) ≤ k ∧ k < (↑x_8 : Int)) ∧ ∃ (x_10 : Option Addr) (x_11 x_12 : Nat), (∀ (u : World), S u → World.cell? u (Addr.add ad (Int.toNat k * 1)) = some
 (Value.slice x_10 x_11 x_12)) ∧ CallsV Try.prog 114 #[Value.slice x x_5 x_6] (World.drew w) fun (v : Value) (w' : World) => ∃ (x : Option Addr) (x_13 x_14 : Nat), v = Value.slice x x_13 x_14 ∧ S w' ∧
 CallsV Try.prog 114 #[Value.slice x_10 x_11 x_12] w' fun (v : Value) (w' : World) => ∃ (x_15 : Option Addr) (x_16 x_17 : Nat), v = Value.slice x_15 x_16 x_17 ∧ S w' ∧ K (Value.tuple #[Value.slice x
 x_13 x_14, Value.slice x_15 x_16 x_17, Value.bool true]) w'
theorem tree_entry.calls (ok : Okay Try.prog) {n : Option Addr} {k : Int} {w : World} {K : Value → World → Prop} (h : tree_entry.W n k w K) : CallsV Try.prog 122 #[.pointer n, .int .i64 k] w K :=
  fnW_calls ok Try.func122 (an := (.named .auto)) (args := [.pointer n, .int .i64 k]) (Eq.mp (by kernel_rfl) h)
noncomputable def tree_Arena_end.W : Option Addr → Int → World → (Value → World → Prop) → Prop := fun (a : Option Addr) (i : Int) (w : World) (K : Value → World → Prop) => ∃ (a_1 : Addr), a =
 some a_1 ∧ ∃ (x : Option Addr) (x_1 x_2 : Nat), World.cell? w (Addr.add a_1 2) = some (Value.slice x x_1 x_2) ∧ ∃ (ad : Addr), x = some ad ∧ ((0 : Int) ≤ i ∧ i < (↑x_1 : Int)) ∧ ∃
 (x : Option Addr), World.cell? w (Addr.add ad (Int.toNat i * 1)) = some (Value.pointer x) ∧ ∃ (I : Option Addr → World → Prop) (μ : Option Addr → World → Nat), I x w ∧ ∀ (x : Option Addr) (w :
 World), I x w → ∃ (a_3 : Addr), x = some a_3 ∧ ∃ (x_3 : Option Addr) (x_4 x_5 : Nat), World.cell? w (Addr.add a_3 2) = some (Value.slice x_3 x_4 x_5) ∧ bif !Option.isNone x_3 then ∃ (a_4
 : Addr), a = some a_4 ∧ ∃ (S : World → Prop), S (World.drew w) ∧ ∃ (x_6 : Option Addr) (x_7 x_8 : Nat), (∀ (u : World), S u → World.cell? u (Addr.add a_4 2) = some (Value.slice x_6 x_7
 x_8)) ∧ ∃ (a : Addr), x = some a ∧ ∃ (x_9 : Option Addr) (x_10 x_11 : Nat), (∀ (u : World), S u → World.cell? u (Addr.add a 2) = some (Value.slice x_9 x_10 x_11)) ∧ ∃ (a : Addr), x =
 some a ∧ ∃ (x_12 : Option Addr) (x_13 x_14 : Nat), (∀ (u : World), S u → World.cell? u (Addr.add a 2) = some (Value.slice x_12 x_13 x_14)) ∧ ∃ (ad : Addr), x_9 = some ad ∧ ((0 :
 Int) ≤ IntKind.wrap IntKind.i64 ((↑x_13 : Int) - (1 : Int)) ∧ IntKind.wrap IntKind.i64 ((↑x_13 : Int) - (1 : Int)) < (↑x_10 : Int)) ∧ ∃ (x_15 : Int), (∀ (u : World), S u → World.cell? u (Addr.add ad
 (Int.toNat (IntKind.wrap IntKind.i64 ((↑x_13 : Int) - (1 : Int))) * 1)) = some (Value.int IntKind.i64 x_15)) ∧ ∃ (ad : Addr), x_6 = some ad ∧ ((0 : Int) ≤ x_15 ∧ x_15 < (↑x_7 : Int)) ∧ ∃
 (x_16 : Option Addr), (∀ (u : World), S u → World.cell? u (Addr.add ad (Int.toNat x_15 * 1)) = some (Value.pointer x_16)) ∧ I x_16 (World.drew w) ∧ μ x_16 (World.drew w) < μ x w else K
 (Value.pointer x) w
theorem tree_Arena_end.calls (ok : Okay Try.prog) {a : Option Addr} {i : Int} {w : World} {K : Value → World → Prop} (h : tree_Arena_end.W a i w K) : CallsV Try.prog 123 #[.pointer a, .int .i64 i] w K :=
  fnW_calls ok Try.func123 (an := (.named (.seq .auto (.seq .auto (.seq (.block (.loop [(5, .one .ptr)] .auto)) .auto))))) (args := [.pointer a, .int .i64 i]) (Eq.mp (by kernel_rfl) h)
noncomputable def tree_Arena_cut.W : Option Addr → Int → Option Addr → Nat → Nat → World → (Value → World → Prop) → Prop := fun (a : Option Addr) (i : Int) (key_A : Option Addr) (key_n key_c : Nat) (w
 : World) (K : Value → World → Prop) => ∃ (a_1 : Addr), a = some a_1 ∧ ∃ (x : Option Addr) (x_1 x_2 : Nat), World.cell? w (Addr.add a_1 2) = some (Value.slice x x_1 x_2) ∧ ∃ (ad : Addr), x
 = some ad ∧ ((0 : Int) ≤ i ∧ i < (↑x_1 : Int)) ∧ ∃ (x : Option Addr), World.cell? w (Addr.add ad (Int.toNat i * 1)) = some (Value.pointer x) ∧ ∃ (a_2 : Addr), x = some a_2 ∧ ∃ (x_3
 : Option Addr) (x_4 x_5 : Nat), World.cell? w (Addr.add a_2 2) = some (Value.slice x_3 x_4 x_5) ∧ bif Option.isNone x_3 then ∃ (a_3 : Addr), x = some a_3 ∧ ∃ (x_6 : Option Addr) (x_7 x_8
 : Nat), World.cell? w (Addr.add a_3 0) = some (Value.slice x_6 x_7 x_8) ∧ CallsV Try.prog 110 #[Value.slice x_6 x_7 x_8, Value.slice key_A key_n key_c, Value.func (Fn.func 111) #[] #[]] w fun (v
 : Value) (w' : World) => ∃ (x_9 : Int) (x_10 : Bool), v = Value.tuple #[Value.int IntKind.i64 x_9, Value.bool x_10] ∧ ∃ (a_4 : Addr), a = some a_4 ∧ ∃ (S : World → Prop), S (World.drew w') ∧ ∃
 (x_11 : Option Addr) (x_12 x_13 : Nat), (∀ (u : World), S u → World.cell? u (Addr.add a_4 2) = some (Value.slice x_11 x_12 x_13)) ∧ ∃ (a : Addr), x = some a ∧ ∃ (x_14 : Option Addr) (x_15
 x_16 : Nat), (∀ (u : World), S u → World.cell? u (Addr.add a 0) = some (Value.slice x_14 x_15 x_16)) ∧ ∃ (a : Addr), x = some a ∧ ∃ (x : Option Addr) (x_17 x_18 : Nat), (∀ (u : World), S
 u → World.cell? u (Addr.add a 1) = some (Value.slice x x_17 x_18)) ∧ CallsV Try.prog 128 #[Value.slice x_14 x_15 x_16] (World.drew w') fun (v : Value) (w' : World) => ∃ (x_19 : Option Addr)
 (x_20 x_21 : Nat), v = Value.slice x_19 x_20 x_21 ∧ S w' ∧ CallsV Try.prog 134 #[Value.slice x_19 x_20 x_21, Value.int IntKind.i64 x_9, Value.int IntKind.i64 (IntKind.wrap IntKind.i64 (x_9 + (1 :
 Int)))] w' fun (v : Value) (w' : World) => ∃ (x_22 : Option Addr) (x_23 x_24 : Nat), v = Value.slice x_22 x_23 x_24 ∧ S w' ∧ CallsV Try.prog 128 #[Value.slice x x_17 x_18] w' fun (v : Value) (w' :
 World) => ∃ (x : Option Addr) (x_25 x_26 : Nat), v = Value.slice x x_25 x_26 ∧ S w' ∧ CallsV Try.prog 134 #[Value.slice x x_25 x_26, Value.int IntKind.i64 x_9, Value.int IntKind.i64 (IntKind.wrap
 IntKind.i64 (x_9 + (1 : Int)))] w' fun (v : Value) (w' : World) => ∃ (x : Option Addr) (x_27 x_28 : Nat), v = Value.slice x x_27 x_28 ∧ S w' ∧ ∀ (g : Nat) (w'_1 : World), Fresh w' g w'_1 [Value.slice
 x_22 x_23 x_24, Value.slice x x_27 x_28, Value.slice none 0 0] 157 → S w'_1 ∧ ∃ (ad : Addr), x_11 = some ad ∧ ((0 : Int) ≤ i ∧ i < (↑x_12 : Int)) ∧ stOK (Addr.add ad (Int.toNat i * 1)) 0
 [Value.pointer (some (Addr.mk g 0 none))] w'_1 ∧ ∀ (w' : World), w' = setAll (Addr.add ad (Int.toNat i * 1)) 0 [Value.pointer (some (Addr.mk g 0 none))] w'_1 → K
 (Value.tuple #[]) w' else CallsV Try.prog 121 #[Value.pointer x, Value.slice key_A key_n key_c] w fun (v : Value) (w' : World) => ∃ (x_6 : Int), v = Value.int IntKind.i64 x_6 ∧ ∃ (a_3 : Addr), x =
 some a_3 ∧ ∃ (x_7 : Option Addr) (x_8 x_9 : Nat), World.cell? w' (Addr.add a_3 2) = some (Value.slice x_7 x_8 x_9) ∧ ∃ (ad : Addr), x_7 = some ad ∧ ((0 : Int) ≤ x_6 ∧ x_6 < (↑x_8 :
 Int)) ∧ ∃ (x_10 : Int), World.cell? w' (Addr.add ad (Int.toNat x_6 * 1)) = some (Value.int IntKind.i64 x_10) ∧ CallsV Try.prog 120 #[Value.pointer a, Value.int IntKind.i64 x_10, Value.slice
 key_A key_n key_c] w' fun (v : Value) (w' : World) => v = Value.tuple #[] ∧ ∃ (a_4 : Addr), a = some a_4 ∧ ∃ (S : World → Prop), S (World.drew w') ∧ ∃ (x_11 : Option Addr) (x_12 x_13 : Nat), (∀
 (u : World), S u → World.cell? u (Addr.add a_4 2) = some (Value.slice x_11 x_12 x_13)) ∧ ∃ (a_5 : Addr), x = some a_5 ∧ ∃ (x : Option Addr) (x_14 x_15 : Nat), (∀ (u : World), S u →
 World.cell? u (Addr.add a_5 2) = some (Value.slice x x_14 x_15)) ∧ ∃ (ad : Addr), x = some ad ∧ ((0 : Int) ≤ x_6 ∧ x_6 < (↑x_14 : Int)) ∧ ∃ (x : Int), (∀ (u : World), S u → World.cell? u
 (Addr.add ad (Int.toNat x_6 * 1)) = some (Value.int IntKind.i64 x)) ∧ ∃ (ad : Addr), x_11 = some ad ∧ ((0 : Int) ≤ x ∧ x < (↑x_12 : Int)) ∧ ∃ (x_16 : Option Addr), (∀ (u : World), S u →
 World.cell? u (Addr.add ad (Int.toNat x * 1)) = some (Value.pointer x_16)) ∧ ∃ (a_6 : Addr), a = some a_6 ∧ ∃ (x : Int), (∀ (u : World), S u → World.cell? u (Addr.add a_6 0) = some
 (Value.int IntKind.i64 x)) ∧ (2 : Int) ≠ (0 : Int) ∧ CallsV Try.prog 127 #[Value.pointer x_16] (World.drew w') fun (v : Value) (w' : World) => ∃ (x_17 : Int), v = Value.int IntKind.i64 x_17 ∧ S w' ∧
 bif decide (x_17 < IntKind.wrap IntKind.i64 (Int.tdiv x (2 : Int))) then CallsV Try.prog 135 #[Value.pointer a, Value.int IntKind.i64 i, Value.int IntKind.i64 (IntKind.wrap IntKind.i64 ((if
 (1 : Int) > x_6 then (1 : Int) else x_6) - (1 : Int)))] w' fun (v : Value) (w' : World) => v = Value.tuple #[] ∧ K (Value.tuple #[]) w' else K (Value.tuple #[]) w'
theorem tree_Arena_cut.calls (ok : Okay Try.prog) {a : Option Addr} {i : Int} {key_A : Option Addr} {key_n : Nat} {key_c : Nat} {w : World} {K : Value → World → Prop} (h : tree_Arena_cut.W a i key_A key_n key_c w K) : CallsV Try.prog 120 #[.pointer a, .int .i64 i, .slice key_A key_n key_c] w K :=
  fnW_calls ok Try.func120 (an := (.named .auto)) (args := [.pointer a, .int .i64 i, .slice key_A key_n key_c]) (Eq.mp (by kernel_rfl) h)
noncomputable def tree_Arena_drop.W : Option Addr → Int → World → (Value → World → Prop) → Prop := fun (a : Option Addr) (i : Int) (w : World) (K : Value → World → Prop) => ∃ (a_1 : Addr), a =
 some a_1 ∧ ∃ (x : Option Addr) (x_1 x_2 : Nat), World.cell? w (Addr.add a_1 2) = some (Value.slice x x_1 x_2) ∧ ∃ (ad : Addr), x = some ad ∧ ((0 : Int) ≤ i ∧ i < (↑x_1 : Int)) ∧
 stOK (Addr.add ad (Int.toNat i * 1)) 0 [Value.pointer none] w ∧ ∀ (w' : World), w' = setAll (Addr.add ad (Int.toNat i * 1)) 0 [Value.pointer none] w → ∃ (a_3 : Addr), a = some a_3
 ∧ ∃ (x : Option Addr) (x_3 x_4 : Nat), World.cell? w' (Addr.add a_3 3) = some (Value.slice x x_3 x_4) ∧ ∀ (g : Nat) (w'_1 : World), Fresh w' g w'_1 [Value.int IntKind.i64 i] 3 → ∃ (x_5 : Option
 Addr) (x_6 x_7 : Nat) (w' : World), RunsTo Try.prog (Builtin.append_ (Array.mk [37, 37]) 37 #[Value.slice x x_3 x_4, Value.slice (some (Addr.mk g 0 none)) 1 1]) w'_1 (Value.slice x_5 x_6
 x_7) w' ∧ ∃ (a_5 : Addr), a = some a_5 ∧ stOK (Addr.add a_5 3) 0 [Value.slice x_5 x_6 x_7] w' ∧ ∀ (w'_2 : World), w'_2 = setAll (Addr.add a_5 3) 0 [Value.slice x_5 x_6 x_7] w' → K (Value.tuple
 #[]) w'_2
theorem tree_Arena_drop.calls (ok : Okay Try.prog) {a : Option Addr} {i : Int} {w : World} {K : Value → World → Prop} (h : tree_Arena_drop.W a i w K) : CallsV Try.prog 117 #[.pointer a, .int .i64 i] w K :=
  fnW_calls ok Try.func117 (an := (.named .auto)) (args := [.pointer a, .int .i64 i]) (Eq.mp (by kernel_rfl) h)
noncomputable def tree_node_size.W : Option Addr → World → (Value → World → Prop) → Prop := fun (n : Option Addr) (w : World) (K : Value → World → Prop) => ∃ (a : Addr), n = some a ∧ ∃ (x :
 Option Addr) (x_1 x_2 : Nat), World.cell? w (Addr.add a 2) = some (Value.slice x x_1 x_2) ∧ bif !Option.isNone x then ∃ (a : Addr), n = some a ∧ ∃ (x : Option Addr) (x_3 x_4 : Nat),
 World.cell? w (Addr.add a 2) = some (Value.slice x x_3 x_4) ∧ K (Value.int IntKind.i64 (↑x_3 : Int)) w else ∃ (a : Addr), n = some a ∧ ∃ (x : Option Addr) (x_3 x_4 : Nat), World.cell? w
 (Addr.add a 0) = some (Value.slice x x_3 x_4) ∧ K (Value.int IntKind.i64 (↑x_3 : Int)) w
theorem tree_node_size.calls (ok : Okay Try.prog) {n : Option Addr} {w : World} {K : Value → World → Prop} (h : tree_node_size.W n w K) : CallsV Try.prog 127 #[.pointer n] w K :=
  fnW_calls ok Try.func127 (an := (.named .auto)) (args := [.pointer n]) (Eq.mp (by kernel_rfl) h)
noncomputable def tree_Arena_split.W : Option Addr → Int → Option Addr → World → (Value → World → Prop) → Prop := fun (a : Option Addr) (i : Int) (n : Option Addr) (w : World) (K : Value → World →
 Prop) => ∃ (a_1 : Addr), a = some a_1 ∧ ∃ (x : Option Addr) (x_1 x_2 : Nat), World.cell? w (Addr.add a_1 2) = some (Value.slice x x_1 x_2) ∧ ∃ (ad : Addr), x = some ad ∧ ((0 : Int)
 ≤ i ∧ i < (↑x_1 : Int)) ∧ stOK (Addr.add ad (Int.toNat i * 1)) 0 [Value.pointer n] w ∧ ∀ (w' : World), w' = setAll (Addr.add ad (Int.toNat i * 1)) 0 [Value.pointer n] w → CallsV Try.prog 127
 #[Value.pointer n] w' fun (v : Value) (w' : World) => ∃ (x : Int), v = Value.int IntKind.i64 x ∧ ∃ (a_3 : Addr), a = some a_3 ∧ ∃ (x_3 : Int), World.cell? w' (Addr.add a_3 0) = some
 (Value.int IntKind.i64 x_3) ∧ bif decide (x ≤ x_3) then K (Value.tuple #[Value.slice none 0 0, Value.int IntKind.i64 (0 : Int), Value.bool false]) w' else (2 : Int) ≠ (0 : Int) ∧
 ∃ (a_4 : Addr), n = some a_4 ∧ ∃ (x_4 : Option Addr) (x_5 x_6 : Nat), World.cell? w' (Addr.add a_4 2) = some (Value.slice x_4 x_5 x_6) ∧ bif Option.isNone x_4 then ∃ (J : World → Prop),
 (∀ (w : World), J w → ∃ (a_6 : Addr), n = some a_6 ∧ ∃ (S : World → Prop), S (World.drew w) ∧ ∃ (x_7 : Option Addr) (x_8 x_9 : Nat), (∀ (u : World), S u → World.cell? u (Addr.add a_6 0) =
 some (Value.slice x_7 x_8 x_9)) ∧ ∃ (ad : Addr), x_7 = some ad ∧ ((0 : Int) ≤ IntKind.wrap IntKind.i64 (Int.tdiv (IntKind.wrap IntKind.i64 (x + (1 : Int))) (2 : Int)) ∧ IntKind.wrap
 IntKind.i64 (Int.tdiv (IntKind.wrap IntKind.i64 (x + (1 : Int))) (2 : Int)) < (↑x_8 : Int)) ∧ ∃ (x_10 : Option Addr) (x_11 x_12 : Nat), (∀ (u : World), S u → World.cell? u (Addr.add ad (Int.toNat
 (IntKind.wrap IntKind.i64 (Int.tdiv (IntKind.wrap IntKind.i64 (x + (1 : Int))) (2 : Int))) * 1)) = some (Value.slice x_10 x_11 x_12)) ∧ ∃ (a_7 : Addr), n = some a_7 ∧ ∃ (x_13 : Option
 Addr) (x_14 x_15 : Nat), (∀ (u : World), S u → World.cell? u (Addr.add a_7 0) = some (Value.slice x_13 x_14 x_15)) ∧ ((0 : Int) ≤ IntKind.wrap IntKind.i64 (Int.tdiv (IntKind.wrap IntKind.i64 (x
 + (1 : Int))) (2 : Int)) ∧ IntKind.wrap IntKind.i64 (Int.tdiv (IntKind.wrap IntKind.i64 (x + (1 : Int))) (2 : Int)) ≤ (↑x_14 : Int)) ∧ ∃ (a_8 : Addr), n = some a_8 ∧ ∃ (x_16 : Option Addr) (x_17
 x_18 : Nat), (∀ (u : World), S u → World.cell? u (Addr.add a_8 1) = some (Value.slice x_16 x_17 x_18)) ∧ ((0 : Int) ≤ IntKind.wrap IntKind.i64 (Int.tdiv (IntKind.wrap IntKind.i64 (x + (1 :
 Int))) (2 : Int)) ∧ IntKind.wrap IntKind.i64 (Int.tdiv (IntKind.wrap IntKind.i64 (x + (1 : Int))) (2 : Int)) ≤ (↑x_17 : Int)) ∧ CallsV Try.prog 128 #[Value.slice (cutAt x_13 x_15 (Int.toNat
 (IntKind.wrap IntKind.i64 (Int.tdiv (IntKind.wrap IntKind.i64 (x + (1 : Int))) (2 : Int)))) 1) (x_14 - Int.toNat (IntKind.wrap IntKind.i64 (Int.tdiv (IntKind.wrap IntKind.i64 (x + (1 : Int))) (2 :
 Int)))) (x_15 - Int.toNat (IntKind.wrap IntKind.i64 (Int.tdiv (IntKind.wrap IntKind.i64 (x + (1 : Int))) (2 : Int))))] (World.drew w) fun (v : Value) (w' : World) => ∃ (x_19 : Option Addr) (x_20 x_21 :
 Nat), v = Value.slice x_19 x_20 x_21 ∧ S w' ∧ CallsV Try.prog 128 #[Value.slice (cutAt x_16 x_18 (Int.toNat (IntKind.wrap IntKind.i64 (Int.tdiv (IntKind.wrap IntKind.i64 (x + (1 : Int))) (2 : Int))))
 1) (x_17 - Int.toNat (IntKind.wrap IntKind.i64 (Int.tdiv (IntKind.wrap IntKind.i64 (x + (1 : Int))) (2 : Int)))) (x_18 - Int.toNat (IntKind.wrap IntKind.i64 (Int.tdiv (IntKind.wrap IntKind.i64 (x + (1
 : Int))) (2 : Int))))] w' fun (v : Value) (w' : World) => ∃ (x : Option Addr) (x_22 x_23 : Nat), v = Value.slice x x_22 x_23 ∧ S w' ∧ ∀ (g : Nat) (w'_1 : World), Fresh w' g w'_1 [Value.slice x_19 x_20
 x_21, Value.slice x x_22 x_23, Value.slice none 0 0] 157 → S w'_1 ∧ CallsV Try.prog 107 #[Value.pointer a, Value.pointer (some (Addr.mk g 0 none))] w'_1 fun (v : Value) (w' :
 World) => ∃ (x : Int), v = Value.int IntKind.i64 x ∧ S w' ∧ K (Value.tuple #[Value.slice x_10 x_11 x_12, Value.int IntKind.i64 x, Value.bool true]) w') ∧ ∃ (a_5 : Addr), a = some a_5 ∧ ∃ (S
 : World → Prop), S (World.drew w') ∧ ∃ (x_7 : Option Addr) (x_8 x_9 : Nat), (∀ (u : World), S u → World.cell? u (Addr.add a_5 2) = some (Value.slice x_7 x_8 x_9)) ∧ ∃ (a : Addr), n = some
 a ∧ ∃ (x_10 : Option Addr) (x_11 x_12 : Nat), (∀ (u : World), S u → World.cell? u (Addr.add a 0) = some (Value.slice x_10 x_11 x_12)) ∧ ((0 : Int) ≤ IntKind.wrap IntKind.i64 (Int.tdiv
 (IntKind.wrap IntKind.i64 (x + (1 : Int))) (2 : Int)) ∧ IntKind.wrap IntKind.i64 (Int.tdiv (IntKind.wrap IntKind.i64 (x + (1 : Int))) (2 : Int)) ≤ (↑x_12 : Int)) ∧ ((0 : Int) ≤ IntKind.wrap IntKind.i64
 (Int.tdiv (IntKind.wrap IntKind.i64 (x + (1 : Int))) (2 : Int)) ∧ IntKind.wrap IntKind.i64 (Int.tdiv (IntKind.wrap IntKind.i64 (x + (1 : Int))) (2 : Int)) ≤ (↑(Int.toNat (IntKind.wrap IntKind.i64
 (Int.tdiv (IntKind.wrap IntKind.i64 (x + (1 : Int))) (2 : Int)))) : Int)) ∧ ∃ (a : Addr), n = some a ∧ ∃ (x_13 : Option Addr) (x_14 x_15 : Nat), (∀ (u : World), S u → World.cell? u (Addr.add a
 1) = some (Value.slice x_13 x_14 x_15)) ∧ ((0 : Int) ≤ IntKind.wrap IntKind.i64 (Int.tdiv (IntKind.wrap IntKind.i64 (x + (1 : Int))) (2 : Int)) ∧ IntKind.wrap IntKind.i64 (Int.tdiv (IntKind.wrap
 IntKind.i64 (x + (1 : Int))) (2 : Int)) ≤ (↑x_15 : Int)) ∧ ((0 : Int) ≤ IntKind.wrap IntKind.i64 (Int.tdiv (IntKind.wrap IntKind.i64 (x + (1 : Int))) (2 : Int)) ∧ IntKind.wrap IntKind.i64 (Int.tdiv
 (IntKind.wrap IntKind.i64 (x + (1 : Int))) (2 : Int)) ≤ (↑(Int.toNat (IntKind.wrap IntKind.i64 (Int.tdiv (IntKind.wrap IntKind.i64 (x + (1 : Int))) (2 : Int)))) : Int)) ∧ ∀ (g : Nat) (w'_1 : World),
 Fresh (World.drew w') g w'_1 [Value.slice (cutAt x_10 (Int.toNat (IntKind.wrap IntKind.i64 (Int.tdiv (IntKind.wrap IntKind.i64 (x + (1 : Int))) (2 : Int)))) 0 1) (Int.toNat (IntKind.wrap IntKind.i64
 (Int.tdiv (IntKind.wrap IntKind.i64 (x + (1 : Int))) (2 : Int))) - 0) (Int.toNat (IntKind.wrap IntKind.i64 (Int.tdiv (IntKind.wrap IntKind.i64 (x + (1 : Int))) (2 : Int))) - 0), Value.slice (cutAt x_13
 (Int.toNat (IntKind.wrap IntKind.i64 (Int.tdiv (IntKind.wrap IntKind.i64 (x + (1 : Int))) (2 : Int)))) 0 1) (Int.toNat (IntKind.wrap IntKind.i64 (Int.tdiv (IntKind.wrap IntKind.i64 (x + (1 : Int))) (2
 : Int))) - 0) (Int.toNat (IntKind.wrap IntKind.i64 (Int.tdiv (IntKind.wrap IntKind.i64 (x + (1 : Int))) (2 : Int))) - 0), Value.slice none 0 0] 157 → S w'_1 ∧ ∃ (ad : Addr), x_7 = some ad
 ∧ ((0 : Int) ≤ i ∧ i < (↑x_8 : Int)) ∧ stOK (Addr.add ad (Int.toNat i * 1)) 0 [Value.pointer (some (Addr.mk g 0 none))] w'_1 ∧ ∀ (w' : World), w' = setAll (Addr.add ad (Int.toNat i * 1))
 0 [Value.pointer (some (Addr.mk g 0 none))] w'_1 → J w' else ∃ (J : World → Prop), (∀ (w : World), J w → ∃ (a_6 : Addr), n = some a_6 ∧ ∃ (S : World → Prop), S (World.drew w) ∧ ∃
 (x_7 : Option Addr) (x_8 x_9 : Nat), (∀ (u : World), S u → World.cell? u (Addr.add a_6 0) = some (Value.slice x_7 x_8 x_9)) ∧ ∃ (ad : Addr), x_7 = some ad ∧ ((0 : Int) ≤ IntKind.wrap
 IntKind.i64 (IntKind.wrap IntKind.i64 (Int.tdiv (IntKind.wrap IntKind.i64 (x + (1 : Int))) (2 : Int)) - (1 : Int)) ∧ IntKind.wrap IntKind.i64 (IntKind.wrap IntKind.i64 (Int.tdiv (IntKind.wrap
 IntKind.i64 (x + (1 : Int))) (2 : Int)) - (1 : Int)) < (↑x_8 : Int)) ∧ ∃ (x_10 : Option Addr) (x_11 x_12 : Nat), (∀ (u : World), S u → World.cell? u (Addr.add ad (Int.toNat (IntKind.wrap IntKind.i64
 (IntKind.wrap IntKind.i64 (Int.tdiv (IntKind.wrap IntKind.i64 (x + (1 : Int))) (2 : Int)) - (1 : Int))) * 1)) = some (Value.slice x_10 x_11 x_12)) ∧ ∃ (a_7 : Addr), n = some a_7 ∧ ∃ (x_13
 : Option Addr) (x_14 x_15 : Nat), (∀ (u : World), S u → World.cell? u (Addr.add a_7 0) = some (Value.slice x_13 x_14 x_15)) ∧ ((0 : Int) ≤ IntKind.wrap IntKind.i64 (Int.tdiv (IntKind.wrap
 IntKind.i64 (x + (1 : Int))) (2 : Int)) ∧ IntKind.wrap IntKind.i64 (Int.tdiv (IntKind.wrap IntKind.i64 (x + (1 : Int))) (2 : Int)) ≤ (↑x_14 : Int)) ∧ ∃ (a_8 : Addr), n = some a_8 ∧ ∃ (x_16 :
 Option Addr) (x_17 x_18 : Nat), (∀ (u : World), S u → World.cell? u (Addr.add a_8 2) = some (Value.slice x_16 x_17 x_18)) ∧ ((0 : Int) ≤ IntKind.wrap IntKind.i64 (Int.tdiv (IntKind.wrap
 IntKind.i64 (x + (1 : Int))) (2 : Int)) ∧ IntKind.wrap IntKind.i64 (Int.tdiv (IntKind.wrap IntKind.i64 (x + (1 : Int))) (2 : Int)) ≤ (↑x_17 : Int)) ∧ CallsV Try.prog 128 #[Value.slice (cutAt x_13 x_15
 (Int.toNat (IntKind.wrap IntKind.i64 (Int.tdiv (IntKind.wrap IntKind.i64 (x + (1 : Int))) (2 : Int)))) 1) (x_14 - Int.toNat (IntKind.wrap IntKind.i64 (Int.tdiv (IntKind.wrap IntKind.i64 (x + (1 :
 Int))) (2 : Int)))) (x_15 - Int.toNat (IntKind.wrap IntKind.i64 (Int.tdiv (IntKind.wrap IntKind.i64 (x + (1 : Int))) (2 : Int))))] (World.drew w) fun (v : Value) (w' : World) => ∃ (x_19 : Option Addr)
 (x_20 x_21 : Nat), v = Value.slice x_19 x_20 x_21 ∧ S w' ∧ CallsV Try.prog 72 #[Value.slice (cutAt x_16 x_18 (Int.toNat (IntKind.wrap IntKind.i64 (Int.tdiv (IntKind.wrap IntKind.i64 (x + (1 : Int))) (2
 : Int)))) 1) (x_17 - Int.toNat (IntKind.wrap IntKind.i64 (Int.tdiv (IntKind.wrap IntKind.i64 (x + (1 : Int))) (2 : Int)))) (x_18 - Int.toNat (IntKind.wrap IntKind.i64 (Int.tdiv (IntKind.wrap
 IntKind.i64 (x + (1 : Int))) (2 : Int))))] w' fun (v : Value) (w' : World) => ∃ (x : Option Addr) (x_22 x_23 : Nat), v = Value.slice x x_22 x_23 ∧ S w' ∧ ∀ (g : Nat) (w'_1 : World), Fresh w' g w'_1
 [Value.slice x_19 x_20 x_21, Value.slice none 0 0, Value.slice x x_22 x_23] 157 → S w'_1 ∧ CallsV Try.prog 107 #[Value.pointer a, Value.pointer (some (Addr.mk g 0 none))] w'_1 fun
 (v : Value) (w' : World) => ∃ (x : Int), v = Value.int IntKind.i64 x ∧ S w' ∧ K (Value.tuple #[Value.slice x_10 x_11 x_12, Value.int IntKind.i64 x, Value.bool true]) w') ∧ ∃ (a_5 : Addr), a =
 some a_5 ∧ ∃ (S : World → Prop), S (World.drew w') ∧ ∃ (x_7 : Option Addr) (x_8 x_9 : Nat), (∀ (u : World), S u → World.cell? u (Addr.add a_5 2) = some (Value.slice x_7 x_8 x_9)) ∧ ∃ (a :
 Addr), n = some a ∧ ∃ (x_10 : Option Addr) (x_11 x_12 : Nat), (∀ (u : World), S u → World.cell? u (Addr.add a 0) = some (Value.slice x_10 x_11 x_12)) ∧ ((0 : Int) ≤ IntKind.wrap
 IntKind.i64 (IntKind.wrap IntKind.i64 (Int.tdiv (IntKind.wrap IntKind.i64 (x + (1 : Int))) (2 : Int)) - (1 : Int)) ∧ IntKind.wrap IntKind.i64 (IntKind.wrap IntKind.i64 (Int.tdiv (IntKind.wrap
 IntKind.i64 (x + (1 : Int))) (2 : Int)) - (1 : Int)) ≤ (↑x_12 : Int)) ∧ ((0 : Int) ≤ IntKind.wrap IntKind.i64 (IntKind.wrap IntKind.i64 (Int.tdiv (IntKind.wrap IntKind.i64 (x + (1 : Int))) (2 : Int)) -
 (1 : Int)) ∧ IntKind.wrap IntKind.i64 (IntKind.wrap IntKind.i64 (Int.tdiv (IntKind.wrap IntKind.i64 (x + (1 : Int))) (2 : Int)) - (1 : Int)) ≤ (↑(Int.toNat (IntKind.wrap IntKind.i64 (IntKind.wrap
 IntKind.i64 (Int.tdiv (IntKind.wrap IntKind.i64 (x + (1 : Int))) (2 : Int)) - (1 : Int)))) : Int)) ∧ ∃ (a : Addr), n = some a ∧ ∃ (x_13 : Option Addr) (x_14 x_15 : Nat), (∀ (u : World), S u →
 World.cell? u (Addr.add a 2) = some (Value.slice x_13 x_14 x_15)) ∧ ((0 : Int) ≤ IntKind.wrap IntKind.i64 (Int.tdiv (IntKind.wrap IntKind.i64 (x + (1 : Int))) (2 : Int)) ∧ IntKind.wrap
 IntKind.i64 (Int.tdiv (IntKind.wrap IntKind.i64 (x + (1 : Int))) (2 : Int)) ≤ (↑x_15 : Int)) ∧ ((0 : Int) ≤ IntKind.wrap IntKind.i64 (Int.tdiv (IntKind.wrap IntKind.i64 (x + (1 : Int))) (2 : Int)) ∧
 IntKind.wrap IntKind.i64 (Int.tdiv (IntKind.wrap IntKind.i64 (x + (1 : Int))) (2 : Int)) ≤ (↑(Int.toNat (IntKind.wrap IntKind.i64 (Int.tdiv (IntKind.wrap IntKind.i64 (x + (1 : Int))) (2 : Int)))) :
 Int)) ∧ ∀ (g : Nat) (w'_1 : World), Fresh (World.drew w') g w'_1 [Value.slice (cutAt x_10 (Int.toNat (IntKind.wrap IntKind.i64 (IntKind.wrap IntKind.i64 (Int.tdiv (IntKind.wrap IntKind.i64 (x + (1 :
 Int))) (2 : Int)) - (1 : Int)))) 0 1) (Int.toNat (IntKind.wrap IntKind.i64 (IntKind.wrap IntKind.i64 (Int.tdiv (IntKind.wrap IntKind.i64 (x + (1 : Int))) (2 : Int)) - (1 : Int))) - 0) (Int.toNat
 (IntKind.wrap IntKind.i64 (IntKind.wrap IntKind.i64 (Int.tdiv (IntKind.wrap IntKind.i64 (x + (1 : Int))) (2 : Int)) - (1 : Int))) - 0), Value.slice none 0 0, Value.slice (cutAt x_13 (Int.toNat
 (IntKind.wrap IntKind.i64 (Int.tdiv (IntKind.wrap IntKind.i64 (x + (1 : Int))) (2 : Int)))) 0 1) (Int.toNat (IntKind.wrap IntKind.i64 (Int.tdiv (IntKind.wrap IntKind.i64 (x + (1 : Int))) (2 : Int))) -
 0) (Int.toNat (IntKind.wrap IntKind.i64 (Int.tdiv (IntKind.wrap IntKind.i64 (x + (1 : Int))) (2 : Int))) - 0)] 157 → S w'_1 ∧ ∃ (ad : Addr), x_7 = some ad ∧ ((0 : Int) ≤ i ∧ i < (↑x_8 : Int)) ∧
 stOK (Addr.add ad (Int.toNat i * 1)) 0 [Value.pointer (some (Addr.mk g 0 none))] w'_1 ∧ ∀ (w' : World), w' = setAll (Addr.add ad (Int.toNat i * 1)) 0 [Value.pointer (some (Addr.mk
 g 0 none))] w'_1 → J w'
theorem tree_Arena_split.calls (ok : Okay Try.prog) {a : Option Addr} {i : Int} {n : Option Addr} {w : World} {K : Value → World → Prop} (h : tree_Arena_split.W a i n w K) : CallsV Try.prog 130 #[.pointer a, .int .i64 i, .pointer n] w K :=
  fnW_calls ok Try.func130 (an := (.named (.seq .auto (.seq .auto (.seq .auto (.seq .auto (.seq .auto (.seq (.seq .auto (.cond (.join [] .auto .auto) .auto)) (.join [] .auto .auto))))))))) (args := [.pointer a, .int .i64 i, .pointer n]) (Eq.mp (by kernel_rfl) h)
noncomputable def tree_Arena_even.W : Option Addr → Int → Int → World → (Value → World → Prop) → Prop := fun (a : Option Addr) (i k : Int) (w : World) (K : Value → World → Prop) => ∃ (a_1 : Addr), a =
 some a_1 ∧ ∃ (x : Option Addr) (x_1 x_2 : Nat), World.cell? w (Addr.add a_1 2) = some (Value.slice x x_1 x_2) ∧ ∃ (ad : Addr), x = some ad ∧ ((0 : Int) ≤ i ∧ i < (↑x_1 : Int)) ∧ ∃
 (x : Option Addr), World.cell? w (Addr.add ad (Int.toNat i * 1)) = some (Value.pointer x) ∧ ∃ (a_2 : Addr), a = some a_2 ∧ ∃ (S : World → Prop), S (World.drew w) ∧ ∃ (x_3 : Option Addr)
 (x_4 x_5 : Nat), (∀ (u : World), S u → World.cell? u (Addr.add a_2 2) = some (Value.slice x_3 x_4 x_5)) ∧ ∃ (a_3 : Addr), x = some a_3 ∧ ∃ (x_6 : Option Addr) (x_7 x_8 : Nat), (∀ (u :
 World), S u → World.cell? u (Addr.add a_3 2) = some (Value.slice x_6 x_7 x_8)) ∧ ∃ (ad : Addr), x_6 = some ad ∧ ((0 : Int) ≤ k ∧ k < (↑x_7 : Int)) ∧ ∃ (x_9 : Int), (∀ (u : World), S u →
 World.cell? u (Addr.add ad (Int.toNat k * 1)) = some (Value.int IntKind.i64 x_9)) ∧ ∃ (ad : Addr), x_3 = some ad ∧ ((0 : Int) ≤ x_9 ∧ x_9 < (↑x_4 : Int)) ∧ ∃ (x_10 : Option Addr), (∀ (u :
 World), S u → World.cell? u (Addr.add ad (Int.toNat x_9 * 1)) = some (Value.pointer x_10)) ∧ ∃ (a_4 : Addr), a = some a_4 ∧ ∃ (x_11 : Option Addr) (x_12 x_13 : Nat), (∀ (u : World), S u →
 World.cell? u (Addr.add a_4 2) = some (Value.slice x_11 x_12 x_13)) ∧ ∃ (a_5 : Addr), x = some a_5 ∧ ∃ (x_14 : Option Addr) (x_15 x_16 : Nat), (∀ (u : World), S u → World.cell? u
 (Addr.add a_5 2) = some (Value.slice x_14 x_15 x_16)) ∧ ∃ (ad : Addr), x_14 = some ad ∧ ((0 : Int) ≤ IntKind.wrap IntKind.i64 (k + (1 : Int)) ∧ IntKind.wrap IntKind.i64 (k + (1 : Int)) <
 (↑x_15 : Int)) ∧ ∃ (x_17 : Int), (∀ (u : World), S u → World.cell? u (Addr.add ad (Int.toNat (IntKind.wrap IntKind.i64 (k + (1 : Int))) * 1)) = some (Value.int IntKind.i64 x_17)) ∧ ∃ (ad :
 Addr), x_11 = some ad ∧ ((0 : Int) ≤ x_17 ∧ x_17 < (↑x_12 : Int)) ∧ ∃ (x_18 : Option Addr), (∀ (u : World), S u → World.cell? u (Addr.add ad (Int.toNat x_17 * 1)) = some (Value.pointer
 x_18)) ∧ ∃ (J : Option Addr → World → Prop), (∀ (x_19 : Option Addr) (w : World), J x_19 w → ∃ (J : Option Addr → World → Prop), (∀ (x_20 : Option Addr) (w : World), J x_20 w → CallsV Try.prog 127
 #[Value.pointer x_20] w fun (v : Value) (w' : World) => ∃ (x_21 : Int), v = Value.int IntKind.i64 x_21 ∧ ∃ (a_8 : Addr), a = some a_8 ∧ ∃ (x_22 : Int), World.cell? w' (Addr.add a_8 0) =
 some (Value.int IntKind.i64 x_22) ∧ bif decide (x_21 ≤ x_22) then ∃ (a_9 : Addr), a = some a_9 ∧ ∃ (S : World → Prop), S (World.drew w') ∧ ∃ (x_23 : Option Addr) (x_24 x_25 :
 Nat), (∀ (u : World), S u → World.cell? u (Addr.add a_9 2) = some (Value.slice x_23 x_24 x_25)) ∧ ∃ (a_10 : Addr), x = some a_10 ∧ ∃ (x_26 : Option Addr) (x_27 x_28 : Nat), (∀ (u :
 World), S u → World.cell? u (Addr.add a_10 2) = some (Value.slice x_26 x_27 x_28)) ∧ ∃ (ad : Addr), x_26 = some ad ∧ ((0 : Int) ≤ k ∧ k < (↑x_27 : Int)) ∧ ∃ (x_29 : Int), (∀ (u : World),
 S u → World.cell? u (Addr.add ad (Int.toNat k * 1)) = some (Value.int IntKind.i64 x_29)) ∧ ∃ (ad : Addr), x_23 = some ad ∧ ((0 : Int) ≤ x_29 ∧ x_29 < (↑x_24 : Int)) ∧ stOK (Addr.add ad
 (Int.toNat x_29 * 1)) 0 [Value.pointer x_20] (World.drew w') ∧ ∀ (w'_1 : World), w'_1 = setAll (Addr.add ad (Int.toNat x_29 * 1)) 0 [Value.pointer x_20] (World.drew w') → ∃ (a_12 : Addr), x =
 some a_12 ∧ ∃ (x_30 : Option Addr) (x_31 x_32 : Nat), World.cell? w'_1 (Addr.add a_12 2) = some (Value.slice x_30 x_31 x_32) ∧ ∃ (ad : Addr), x_30 = some ad ∧ ((0 : Int) ≤
 IntKind.wrap IntKind.i64 (k + (1 : Int)) ∧ IntKind.wrap IntKind.i64 (k + (1 : Int)) < (↑x_31 : Int)) ∧ ∃ (x_33 : Int), World.cell? w'_1 (Addr.add ad (Int.toNat (IntKind.wrap IntKind.i64 (k + (1 :
 Int))) * 1)) = some (Value.int IntKind.i64 x_33) ∧ CallsV Try.prog 117 #[Value.pointer a, Value.int IntKind.i64 x_33] w'_1 fun (v : Value) (w' : World) => v = Value.tuple #[] ∧ ∃ (a_13 : Addr),
 a = some a_13 ∧ ∃ (S : World → Prop), S (World.drew w') ∧ ∃ (x_34 : Option Addr) (x_35 x_36 : Nat), (∀ (u : World), S u → World.cell? u (Addr.add a_13 2) = some (Value.slice x_34 x_35
 x_36)) ∧ ∃ (a : Addr), x = some a ∧ ∃ (x_37 : Option Addr) (x_38 x_39 : Nat), (∀ (u : World), S u → World.cell? u (Addr.add a 0) = some (Value.slice x_37 x_38 x_39)) ∧ ∃ (a : Addr), x =
 some a ∧ ∃ (x : Option Addr) (x_40 x_41 : Nat), (∀ (u : World), S u → World.cell? u (Addr.add a 2) = some (Value.slice x x_40 x_41)) ∧ CallsV Try.prog 128 #[Value.slice x_37 x_38 x_39]
 (World.drew w') fun (v : Value) (w' : World) => ∃ (x_42 : Option Addr) (x_43 x_44 : Nat), v = Value.slice x_42 x_43 x_44 ∧ S w' ∧ CallsV Try.prog 134 #[Value.slice x_42 x_43 x_44, Value.int IntKind.i64
 k, Value.int IntKind.i64 (IntKind.wrap IntKind.i64 (k + (1 : Int)))] w' fun (v : Value) (w' : World) => ∃ (x_45 : Option Addr) (x_46 x_47 : Nat), v = Value.slice x_45 x_46 x_47 ∧ S w' ∧ CallsV Try.prog
 72 #[Value.slice x x_40 x_41] w' fun (v : Value) (w' : World) => ∃ (x : Option Addr) (x_48 x_49 : Nat), v = Value.slice x x_48 x_49 ∧ S w' ∧ CallsV Try.prog 142 #[Value.slice x x_48 x_49, Value.int
 IntKind.i64 (IntKind.wrap IntKind.i64 (k + (1 : Int))), Value.int IntKind.i64 (IntKind.wrap IntKind.i64 (k + (2 : Int)))] w' fun (v : Value) (w' : World) => ∃ (x : Option Addr) (x_50 x_51 : Nat), v =
 Value.slice x x_50 x_51 ∧ S w' ∧ ∀ (g : Nat) (w'_2 : World), Fresh w' g w'_2 [Value.slice x_45 x_46 x_47, Value.slice none 0 0, Value.slice x x_50 x_51] 157 → S w'_2 ∧ ∃ (ad : Addr), x_34 =
 some ad ∧ ((0 : Int) ≤ i ∧ i < (↑x_35 : Int)) ∧ stOK (Addr.add ad (Int.toNat i * 1)) 0 [Value.pointer (some (Addr.mk g 0 none))] w'_2 ∧ ∀ (w' : World), w' = setAll (Addr.add ad
 (Int.toNat i * 1)) 0 [Value.pointer (some (Addr.mk g 0 none))] w'_2 → K (Value.tuple #[]) w' else ∃ (a_9 : Addr), x = some a_9 ∧ ∃ (x_23 : Option Addr) (x_24 x_25 : Nat),
 World.cell? w' (Addr.add a_9 0) = some (Value.slice x_23 x_24 x_25) ∧ CallsV Try.prog 128 #[Value.slice x_23 x_24 x_25] w' fun (v : Value) (w' : World) => ∃ (x_26 : Option Addr) (x_27 x_28 :
 Nat), v = Value.slice x_26 x_27 x_28 ∧ CallsV Try.prog 127 #[Value.pointer x_20] w' fun (v : Value) (w' : World) => ∃ (x_29 : Int), v = Value.int IntKind.i64 x_29 ∧ (2 : Int) ≠ (0 : Int) ∧ ∃ (a_10 :
 Addr), x_20 = some a_10 ∧ ∃ (x_30 : Option Addr) (x_31 x_32 : Nat), World.cell? w' (Addr.add a_10 2) = some (Value.slice x_30 x_31 x_32) ∧ bif Option.isNone x_30 then ∃ (J : World →
 Prop), (∀ (w : World), J w → ∃ (J : World → Prop), (∀ (w : World), J w → ∃ (a_13 : Addr), x_20 = some a_13 ∧ ∃ (x_33 : Option Addr) (x_34 x_35 : Nat), World.cell? w (Addr.add a_13 0) =
 some (Value.slice x_33 x_34 x_35) ∧ ∃ (ad : Addr), x_33 = some ad ∧ ((0 : Int) ≤ IntKind.wrap IntKind.i64 (Int.tdiv x_29 (2 : Int)) ∧ IntKind.wrap IntKind.i64 (Int.tdiv x_29 (2 : Int)) <
 (↑x_34 : Int)) ∧ ∃ (x_36 : Option Addr) (x_37 x_38 : Nat), World.cell? w (Addr.add ad (Int.toNat (IntKind.wrap IntKind.i64 (Int.tdiv x_29 (2 : Int))) * 1)) = some (Value.slice x_36 x_37 x_38) ∧
 ∃ (ad : Addr), x_26 = some ad ∧ ((0 : Int) ≤ k ∧ k < (↑x_27 : Int)) ∧ stOK (Addr.add ad (Int.toNat k * 1)) 0 [Value.slice x_36 x_37 x_38] w ∧ ∀ (w' : World), w' = setAll (Addr.add ad (Int.toNat
 k * 1)) 0 [Value.slice x_36 x_37 x_38] w → ∃ (a_15 : Addr), a = some a_15 ∧ ∃ (S : World → Prop), S (World.drew w') ∧ ∃ (x_39 : Option Addr) (x_40 x_41 : Nat), (∀ (u : World), S u → World.cell?
 u (Addr.add a_15 2) = some (Value.slice x_39 x_40 x_41)) ∧ ∃ (a : Addr), x = some a ∧ ∃ (x : Option Addr) (x_42 x_43 : Nat), (∀ (u : World), S u → World.cell? u (Addr.add a 2) =
 some (Value.slice x x_42 x_43)) ∧ ∀ (g : Nat) (w'_1 : World), Fresh (World.drew w') g w'_1 [Value.slice x_26 x_27 x_28, Value.slice none 0 0, Value.slice x x_42 x_43] 157 → S w'_1 ∧ ∃ (ad
 : Addr), x_39 = some ad ∧ ((0 : Int) ≤ i ∧ i < (↑x_40 : Int)) ∧ stOK (Addr.add ad (Int.toNat i * 1)) 0 [Value.pointer (some (Addr.mk g 0 none))] w'_1 ∧ ∀ (w' : World), w' = setAll
 (Addr.add ad (Int.toNat i * 1)) 0 [Value.pointer (some (Addr.mk g 0 none))] w'_1 → K (Value.tuple #[]) w') ∧ ∃ (a_12 : Addr), a = some a_12 ∧ ∃ (S : World → Prop), S (World.drew w)
 ∧ ∃ (x_33 : Option Addr) (x_34 x_35 : Nat), (∀ (u : World), S u → World.cell? u (Addr.add a_12 2) = some (Value.slice x_33 x_34 x_35)) ∧ ∃ (a : Addr), x = some a ∧ ∃ (x : Option Addr)
 (x_36 x_37 : Nat), (∀ (u : World), S u → World.cell? u (Addr.add a 2) = some (Value.slice x x_36 x_37)) ∧ ∃ (ad : Addr), x = some ad ∧ ((0 : Int) ≤ IntKind.wrap IntKind.i64 (k + (1 :
 Int)) ∧ IntKind.wrap IntKind.i64 (k + (1 : Int)) < (↑x_36 : Int)) ∧ ∃ (x : Int), (∀ (u : World), S u → World.cell? u (Addr.add ad (Int.toNat (IntKind.wrap IntKind.i64 (k + (1 : Int))) * 1)) =
 some (Value.int IntKind.i64 x)) ∧ ∃ (a : Addr), x_20 = some a ∧ ∃ (x_38 : Option Addr) (x_39 x_40 : Nat), (∀ (u : World), S u → World.cell? u (Addr.add a 0) = some (Value.slice
 x_38 x_39 x_40)) ∧ ((0 : Int) ≤ IntKind.wrap IntKind.i64 (Int.tdiv x_29 (2 : Int)) ∧ IntKind.wrap IntKind.i64 (Int.tdiv x_29 (2 : Int)) ≤ (↑x_39 : Int)) ∧ ∃ (a : Addr), x_20 = some a ∧ ∃ (x_41 :
 Option Addr) (x_42 x_43 : Nat), (∀ (u : World), S u → World.cell? u (Addr.add a 1) = some (Value.slice x_41 x_42 x_43)) ∧ ((0 : Int) ≤ IntKind.wrap IntKind.i64 (Int.tdiv x_29 (2 : Int)) ∧
 IntKind.wrap IntKind.i64 (Int.tdiv x_29 (2 : Int)) ≤ (↑x_42 : Int)) ∧ CallsV Try.prog 128 #[Value.slice (cutAt x_38 x_40 (Int.toNat (IntKind.wrap IntKind.i64 (Int.tdiv x_29 (2 : Int)))) 1) (x_39 -
 Int.toNat (IntKind.wrap IntKind.i64 (Int.tdiv x_29 (2 : Int)))) (x_40 - Int.toNat (IntKind.wrap IntKind.i64 (Int.tdiv x_29 (2 : Int))))] (World.drew w) fun (v : Value) (w' : World) => ∃ (x_44 : Option
 Addr) (x_45 x_46 : Nat), v = Value.slice x_44 x_45 x_46 ∧ S w' ∧ CallsV Try.prog 128 #[Value.slice (cutAt x_41 x_43 (Int.toNat (IntKind.wrap IntKind.i64 (Int.tdiv x_29 (2 : Int)))) 1) (x_42 - Int.toNat
 (IntKind.wrap IntKind.i64 (Int.tdiv x_29 (2 : Int)))) (x_43 - Int.toNat (IntKind.wrap IntKind.i64 (Int.tdiv x_29 (2 : Int))))] w' fun (v : Value) (w' : World) => ∃ (x_47 : Option Addr) (x_48 x_49 :
 Nat), v = Value.slice x_47 x_48 x_49 ∧ S w' ∧ ∀ (g : Nat) (w'_1 : World), Fresh w' g w'_1 [Value.slice x_44 x_45 x_46, Value.slice x_47 x_48 x_49, Value.slice none 0 0] 157 → S w'_1 ∧ ∃ (ad :
 Addr), x_33 = some ad ∧ ((0 : Int) ≤ x ∧ x < (↑x_34 : Int)) ∧ stOK (Addr.add ad (Int.toNat x * 1)) 0 [Value.pointer (some (Addr.mk g 0 none))] w'_1 ∧ ∀ (w' : World), w' = setAll
 (Addr.add ad (Int.toNat x * 1)) 0 [Value.pointer (some (Addr.mk g 0 none))] w'_1 → J w') ∧ ∃ (a_11 : Addr), a = some a_11 ∧ ∃ (S : World → Prop), S (World.drew w') ∧ ∃ (x_33 :
 Option Addr) (x_34 x_35 : Nat), (∀ (u : World), S u → World.cell? u (Addr.add a_11 2) = some (Value.slice x_33 x_34 x_35)) ∧ ∃ (a : Addr), x = some a ∧ ∃ (x : Option Addr) (x_36 x_37 :
 Nat), (∀ (u : World), S u → World.cell? u (Addr.add a 2) = some (Value.slice x x_36 x_37)) ∧ ∃ (ad : Addr), x = some ad ∧ ((0 : Int) ≤ k ∧ k < (↑x_36 : Int)) ∧ ∃ (x : Int), (∀ (u :
 World), S u → World.cell? u (Addr.add ad (Int.toNat k * 1)) = some (Value.int IntKind.i64 x)) ∧ ∃ (a : Addr), x_20 = some a ∧ ∃ (x_38 : Option Addr) (x_39 x_40 : Nat), (∀ (u : World), S u
 → World.cell? u (Addr.add a 0) = some (Value.slice x_38 x_39 x_40)) ∧ ((0 : Int) ≤ IntKind.wrap IntKind.i64 (Int.tdiv x_29 (2 : Int)) ∧ IntKind.wrap IntKind.i64 (Int.tdiv x_29 (2 : Int)) ≤
 (↑x_40 : Int)) ∧ ∃ (a : Addr), x_20 = some a ∧ ∃ (x_41 : Option Addr) (x_42 x_43 : Nat), (∀ (u : World), S u → World.cell? u (Addr.add a 1) = some (Value.slice x_41 x_42 x_43)) ∧ ((0 :
 Int) ≤ IntKind.wrap IntKind.i64 (Int.tdiv x_29 (2 : Int)) ∧ IntKind.wrap IntKind.i64 (Int.tdiv x_29 (2 : Int)) ≤ (↑x_43 : Int)) ∧ CallsV Try.prog 128 #[Value.slice (cutAt x_38 x_40 0 1) (Int.toNat
 (IntKind.wrap IntKind.i64 (Int.tdiv x_29 (2 : Int))) - 0) (x_40 - 0)] (World.drew w') fun (v : Value) (w' : World) => ∃ (x_44 : Option Addr) (x_45 x_46 : Nat), v = Value.slice x_44 x_45 x_46 ∧ S w' ∧
 CallsV Try.prog 128 #[Value.slice (cutAt x_41 x_43 0 1) (Int.toNat (IntKind.wrap IntKind.i64 (Int.tdiv x_29 (2 : Int))) - 0) (x_43 - 0)] w' fun (v : Value) (w' : World) => ∃ (x_47 : Option Addr) (x_48
 x_49 : Nat), v = Value.slice x_47 x_48 x_49 ∧ S w' ∧ ∀ (g : Nat) (w'_1 : World), Fresh w' g w'_1 [Value.slice x_44 x_45 x_46, Value.slice x_47 x_48 x_49, Value.slice none 0 0] 157 → S w'_1 ∧ ∃
 (ad : Addr), x_33 = some ad ∧ ((0 : Int) ≤ x ∧ x < (↑x_34 : Int)) ∧ stOK (Addr.add ad (Int.toNat x * 1)) 0 [Value.pointer (some (Addr.mk g 0 none))] w'_1 ∧ ∀ (w' : World), w' =
 setAll (Addr.add ad (Int.toNat x * 1)) 0 [Value.pointer (some (Addr.mk g 0 none))] w'_1 → J w' else ∃ (J : World → Prop), (∀ (w : World), J w → ∃ (J : World → Prop), (∀ (w : World), J w →
 ∃ (a_13 : Addr), x_20 = some a_13 ∧ ∃ (x_33 : Option Addr) (x_34 x_35 : Nat), World.cell? w (Addr.add a_13 0) = some (Value.slice x_33 x_34 x_35) ∧ ∃ (ad : Addr), x_33 = some ad ∧
 ((0 : Int) ≤ IntKind.wrap IntKind.i64 (IntKind.wrap IntKind.i64 (Int.tdiv x_29 (2 : Int)) - (1 : Int)) ∧ IntKind.wrap IntKind.i64 (IntKind.wrap IntKind.i64 (Int.tdiv x_29 (2 : Int)) - (1 : Int)) <
 (↑x_34 : Int)) ∧ ∃ (x_36 : Option Addr) (x_37 x_38 : Nat), World.cell? w (Addr.add ad (Int.toNat (IntKind.wrap IntKind.i64 (IntKind.wrap IntKind.i64 (Int.tdiv x_29 (2 : Int)) - (1 : Int))) * 1)) =
 some (Value.slice x_36 x_37 x_38) ∧ ∃ (ad : Addr), x_26 = some ad ∧ ((0 : Int) ≤ k ∧ k < (↑x_27 : Int)) ∧ stOK (Addr.add ad (Int.toNat k * 1)) 0 [Value.slice x_36 x_37 x_38] w ∧ ∀ (w' :
 World), w' = setAll (Addr.add ad (Int.toNat k * 1)) 0 [Value.slice x_36 x_37 x_38] w → ∃ (a_15 : Addr), a = some a_15 ∧ ∃ (S : World → Prop), S (World.drew w') ∧ ∃ (x_39 : Option Addr) (x_40
 x_41 : Nat), (∀ (u : World), S u → World.cell? u (Addr.add a_15 2) = some (Value.slice x_39 x_40 x_41)) ∧ ∃ (a : Addr), x = some a ∧ ∃ (x : Option Addr) (x_42 x_43 : Nat), (∀ (u : World),
 S u → World.cell? u (Addr.add a 2) = some (Value.slice x x_42 x_43)) ∧ ∀ (g : Nat) (w'_1 : World), Fresh (World.drew w') g w'_1 [Value.slice x_26 x_27 x_28, Value.slice none 0 0,
 Value.slice x x_42 x_43] 157 → S w'_1 ∧ ∃ (ad : Addr), x_39 = some ad ∧ ((0 : Int) ≤ i ∧ i < (↑x_40 : Int)) ∧ stOK (Addr.add ad (Int.toNat i * 1)) 0 [Value.pointer (some (Addr.mk g 0
 none))] w'_1 ∧ ∀ (w' : World), w' = setAll (Addr.add ad (Int.toNat i * 1)) 0 [Value.pointer (some (Addr.mk g 0 none))] w'_1 → K (Value.tuple #[]) w') ∧ ∃ (a_12 : Addr), a =
 some a_12 ∧ ∃ (S : World → Prop), S (World.drew w) ∧ ∃ (x_33 : Option Addr) (x_34 x_35 : Nat), (∀ (u : World), S u → World.cell? u (Addr.add a_12 2) = some (Value.slice x_33 x_34 x_35)) ∧
 ∃ (a : Addr), x = some a ∧ ∃ (x : Option Addr) (x_36 x_37 : Nat), (∀ (u : World), S u → World.cell? u (Addr.add a 2) = some (Value.slice x x_36 x_37)) ∧ ∃ (ad : Addr), x = some ad
 ∧ ((0 : Int) ≤ IntKind.wrap IntKind.i64 (k + (1 : Int)) ∧ IntKind.wrap IntKind.i64 (k + (1 : Int)) < (↑x_36 : Int)) ∧ ∃ (x : Int), (∀ (u : World), S u → World.cell? u (Addr.add ad (Int.toNat
 (IntKind.wrap IntKind.i64 (k + (1 : Int))) * 1)) = some (Value.int IntKind.i64 x)) ∧ ∃ (a : Addr), x_20 = some a ∧ ∃ (x_38 : Option Addr) (x_39 x_40 : Nat), (∀ (u : World), S u →
 World.cell? u (Addr.add a 0) = some (Value.slice x_38 x_39 x_40)) ∧ ((0 : Int) ≤ IntKind.wrap IntKind.i64 (Int.tdiv x_29 (2 : Int)) ∧ IntKind.wrap IntKind.i64 (Int.tdiv x_29 (2 : Int)) ≤ (↑x_39
 : Int)) ∧ ∃ (a : Addr), x_20 = some a ∧ ∃ (x_41 : Option Addr) (x_42 x_43 : Nat), (∀ (u : World), S u → World.cell? u (Addr.add a 2) = some (Value.slice x_41 x_42 x_43)) ∧ ((0 : Int) ≤
 IntKind.wrap IntKind.i64 (Int.tdiv x_29 (2 : Int)) ∧ IntKind.wrap IntKind.i64 (Int.tdiv x_29 (2 : Int)) ≤ (↑x_42 : Int)) ∧ CallsV Try.prog 128 #[Value.slice (cutAt x_38 x_40 (Int.toNat (IntKind.wrap
 IntKind.i64 (Int.tdiv x_29 (2 : Int)))) 1) (x_39 - Int.toNat (IntKind.wrap IntKind.i64 (Int.tdiv x_29 (2 : Int)))) (x_40 - Int.toNat (IntKind.wrap IntKind.i64 (Int.tdiv x_29 (2 : Int))))] (World.drew
 w) fun (v : Value) (w' : World) => ∃ (x_44 : Option Addr) (x_45 x_46 : Nat), v = Value.slice x_44 x_45 x_46 ∧ S w' ∧ CallsV Try.prog 72 #[Value.slice (cutAt x_41 x_43 (Int.toNat (IntKind.wrap
 IntKind.i64 (Int.tdiv x_29 (2 : Int)))) 1) (x_42 - Int.toNat (IntKind.wrap IntKind.i64 (Int.tdiv x_29 (2 : Int)))) (x_43 - Int.toNat (IntKind.wrap IntKind.i64 (Int.tdiv x_29 (2 : Int))))] w' fun (v :
 Value) (w' : World) => ∃ (x_47 : Option Addr) (x_48 x_49 : Nat), v = Value.slice x_47 x_48 x_49 ∧ S w' ∧ ∀ (g : Nat) (w'_1 : World), Fresh w' g w'_1 [Value.slice x_44 x_45 x_46, Value.slice none
 0 0, Value.slice x_47 x_48 x_49] 157 → S w'_1 ∧ ∃ (ad : Addr), x_33 = some ad ∧ ((0 : Int) ≤ x ∧ x < (↑x_34 : Int)) ∧ stOK (Addr.add ad (Int.toNat x * 1)) 0 [Value.pointer (some (Addr.mk
 g 0 none))] w'_1 ∧ ∀ (w' : World), w' = setAll (Addr.add ad (Int.toNat x * 1)) 0 [Value.pointer (some (Addr.mk g 0 none))] w'_1 → J w') ∧ ∃ (a_11 : Addr), a = some a_11 ∧ ∃
 (S : World → Prop), S (World.drew w') ∧ ∃ (x_33 : Option Addr) (x_34 x_35 : Nat), (∀ (u : World), S u → World.cell? u (Addr.add a_11 2) = some (Value.slice x_33 x_34 x_35)) ∧ ∃ (a : Addr), x =
 some a ∧ ∃ (x : Option Addr) (x_36 x_37 : Nat), (∀ (u : World), S u → World.cell? u (Addr.add a 2) = some (Value.slice x x_36 x_37)) ∧ ∃ (ad : Addr), x = some ad ∧ ((0 : Int) ≤ k ∧
 k < (↑x_36 : Int)) ∧ ∃ (x : Int), (∀ (u : World), S u → World.cell? u (Addr.add ad (Int.toNat k * 1)) = some (Value.int IntKind.i64 x)) ∧ ∃ (a : Addr), x_20 = some a ∧ ∃ (x_38 : Option
 Addr) (x_39 x_40 : Nat), (∀ (u : World), S u → World.cell? u (Addr.add a 0) = some (Value.slice x_38 x_39 x_40)) ∧ ((0 : Int) ≤ IntKind.wrap IntKind.i64 (IntKind.wrap IntKind.i64 (Int.tdiv x_29
 (2 : Int)) - (1 : Int)) ∧ IntKind.wrap IntKind.i64 (IntKind.wrap IntKind.i64 (Int.tdiv x_29 (2 : Int)) - (1 : Int)) ≤ (↑x_40 : Int)) ∧ ∃ (a : Addr), x_20 = some a ∧ ∃ (x_41 : Option Addr) (x_42
 x_43 : Nat), (∀ (u : World), S u → World.cell? u (Addr.add a 2) = some (Value.slice x_41 x_42 x_43)) ∧ ((0 : Int) ≤ IntKind.wrap IntKind.i64 (Int.tdiv x_29 (2 : Int)) ∧ IntKind.wrap IntKind.i64
 (Int.tdiv x_29 (2 : Int)) ≤ (↑x_43 : Int)) ∧ CallsV Try.prog 128 #[Value.slice (cutAt x_38 x_40 0 1) (Int.toNat (IntKind.wrap IntKind.i64 (IntKind.wrap IntKind.i64 (Int.tdiv x_29 (2 : Int)) - (1 :
 Int))) - 0) (x_40 - 0)] (World.drew w') fun (v : Value) (w' : World) => ∃ (x_44 : Option Addr) (x_45 x_46 : Nat), v = Value.slice x_44 x_45 x_46 ∧ S w' ∧ CallsV Try.prog 72 #[Value.slice (cutAt x_41
 x_43 0 1) (Int.toNat (IntKind.wrap IntKind.i64 (Int.tdiv x_29 (2 : Int))) - 0) (x_43 - 0)] w' fun (v : Value) (w' : World) => ∃ (x_47 : Option Addr) (x_48 x_49 : Nat), v = Value.slice x_47 x_48 x_49 ∧
 S w' ∧ ∀ (g : Nat) (w'_1 : World), Fresh w' g w'_1 [Value.slice x_44 x_45 x_46, Value.slice none 0 0, Value.slice x_47 x_48 x_49] 157 → S w'_1 ∧ ∃ (ad : Addr), x_33 = some ad ∧ ((0 : Int)
 ≤ x ∧ x < (↑x_34 : Int)) ∧ stOK (Addr.add ad (Int.toNat x * 1)) 0 [Value.pointer (some (Addr.mk g 0 none))] w'_1 ∧ ∀ (w' : World), w' = setAll (Addr.add ad (Int.toNat x * 1)) 0
 [Value.pointer (some (Addr.mk g 0 none))] w'_1 → J w') ∧ ∃ (a : Addr), x_10 = some a ∧ ∃ (x_20 : Option Addr) (x_21 x_22 : Nat), World.cell? w (Addr.add a 2) = some
 (Value.slice x_20 x_21 x_22) ∧ bif !Option.isNone x_20 then ∃ (a : Addr), x_10 = some a ∧ ∃ (S : World → Prop), S (World.drew w) ∧ ∃ (x_23 : Option Addr) (x_24 x_25 : Nat), (∀ (u : World), S u →
 World.cell? u (Addr.add a 0) = some (Value.slice x_23 x_24 x_25)) ∧ ∃ (a : Addr), x = some a ∧ ∃ (x : Option Addr) (x_26 x_27 : Nat), (∀ (u : World), S u → World.cell? u (Addr.add a 0) =
 some (Value.slice x x_26 x_27)) ∧ ∃ (ad : Addr), x = some ad ∧ ((0 : Int) ≤ k ∧ k < (↑x_26 : Int)) ∧ ∃ (x : Option Addr) (x_28 x_29 : Nat), (∀ (u : World), S u → World.cell? u (Addr.add
 ad (Int.toNat k * 1)) = some (Value.slice x x_28 x_29)) ∧ ∃ (a : Addr), x_18 = some a ∧ ∃ (x_30 : Option Addr) (x_31 x_32 : Nat), (∀ (u : World), S u → World.cell? u (Addr.add a 0) =
 some (Value.slice x_30 x_31 x_32)) ∧ ∃ (a : Addr), x_10 = some a ∧ ∃ (x_33 : Option Addr) (x_34 x_35 : Nat), (∀ (u : World), S u → World.cell? u (Addr.add a 2) = some (Value.slice
 x_33 x_34 x_35)) ∧ ∃ (a : Addr), x_18 = some a ∧ ∃ (x_36 : Option Addr) (x_37 x_38 : Nat), (∀ (u : World), S u → World.cell? u (Addr.add a 2) = some (Value.slice x_36 x_37 x_38)) ∧ (∀ (g
 : Nat) (w' : World), Fresh (World.drew w) g w' [Value.slice x x_28 x_29] 28 → S w' ∧ (∀ (g_1 : Nat) (w'_1 : World), Fresh w' g_1 w'_1 [Value.slice x_23 x_24 x_25, Value.slice (some (Addr.mk g 0
 none)) 1 1, Value.slice x_30 x_31 x_32] 155 → S w'_1 ∧ (CallsV Try.prog 140 #[Value.slice (some (Addr.mk g_1 0 none)) 3 3] w'_1 fun (v : Value) (w' : World) => ∃ (x : Option Addr)
 (x_39 x_40 : Nat), v = Value.slice x x_39 x_40 ∧ S w' ∧ ∀ (g : Nat) (w'_2 : World), Fresh w' g w'_2 [Value.slice x_33 x_34 x_35, Value.slice x_36 x_37 x_38] 37 → S w'_2 ∧ CallsV Try.prog 141
 #[Value.slice (some (Addr.mk g 0 none)) 2 2] w'_2 fun (v : Value) (w' : World) => ∃ (x_41 : Option Addr) (x_42 x_43 : Nat), v = Value.slice x_41 x_42 x_43 ∧ S w' ∧ ∀ (g : Nat) (w'_3 :
 World), Fresh w' g w'_3 [Value.slice x x_39 x_40, Value.slice none 0 0, Value.slice x_41 x_42 x_43] 157 → S w'_3 ∧ J (some (Addr.mk g 0 none)) w'_3) ∧ ∀ (g : Nat) (w' : World),
 Fresh w'_1 g w' [Value.slice x_33 x_34 x_35, Value.slice x_36 x_37 x_38] 37 → S w' ∧ CallsV Try.prog 140 #[Value.slice (some (Addr.mk g_1 0 none)) 3 3] w' fun (v : Value) (w' : World) =>
 ∃ (x : Option Addr) (x_39 x_40 : Nat), v = Value.slice x x_39 x_40 ∧ S w' ∧ CallsV Try.prog 141 #[Value.slice (some (Addr.mk g 0 none)) 2 2] w' fun (v : Value) (w' : World) => ∃ (x_41 :
 Option Addr) (x_42 x_43 : Nat), v = Value.slice x_41 x_42 x_43 ∧ S w' ∧ ∀ (g : Nat) (w'_2 : World), Fresh w' g w'_2 [Value.slice x x_39 x_40, Value.slice none 0 0, Value.slice x_41 x_42 x_43]
 157 → S w'_2 ∧ J (some (Addr.mk g 0 none)) w'_2) ∧ ∀ (g_1 : Nat) (w'_1 : World), Fresh w' g_1 w'_1 [Value.slice x_33 x_34 x_35, Value.slice x_36 x_37 x_38] 37 → S w'_1 ∧ ∀ (g_2 : Nat) (w'
 : World), Fresh w'_1 g_2 w' [Value.slice x_23 x_24 x_25, Value.slice (some (Addr.mk g 0 none)) 1 1, Value.slice x_30 x_31 x_32] 155 → S w' ∧ CallsV Try.prog 140 #[Value.slice (some
 (Addr.mk g_2 0 none)) 3 3] w' fun (v : Value) (w' : World) => ∃ (x : Option Addr) (x_39 x_40 : Nat), v = Value.slice x x_39 x_40 ∧ S w' ∧ CallsV Try.prog 141 #[Value.slice (some (Addr.mk
 g_1 0 none)) 2 2] w' fun (v : Value) (w' : World) => ∃ (x_41 : Option Addr) (x_42 x_43 : Nat), v = Value.slice x_41 x_42 x_43 ∧ S w' ∧ ∀ (g : Nat) (w'_2 : World), Fresh w' g w'_2 [Value.slice x
 x_39 x_40, Value.slice none 0 0, Value.slice x_41 x_42 x_43] 157 → S w'_2 ∧ J (some (Addr.mk g 0 none)) w'_2) ∧ ∀ (g : Nat) (w' : World), Fresh (World.drew w) g w' [Value.slice
 x_33 x_34 x_35, Value.slice x_36 x_37 x_38] 37 → S w' ∧ ∀ (g_1 : Nat) (w'_1 : World), Fresh w' g_1 w'_1 [Value.slice x x_28 x_29] 28 → S w'_1 ∧ ∀ (g_2 : Nat) (w' : World), Fresh w'_1 g_2 w'
 [Value.slice x_23 x_24 x_25, Value.slice (some (Addr.mk g_1 0 none)) 1 1, Value.slice x_30 x_31 x_32] 155 → S w' ∧ CallsV Try.prog 140 #[Value.slice (some (Addr.mk g_2 0
 none)) 3 3] w' fun (v : Value) (w' : World) => ∃ (x : Option Addr) (x_39 x_40 : Nat), v = Value.slice x x_39 x_40 ∧ S w' ∧ CallsV Try.prog 141 #[Value.slice (some (Addr.mk g 0
 none)) 2 2] w' fun (v : Value) (w' : World) => ∃ (x_41 : Option Addr) (x_42 x_43 : Nat), v = Value.slice x_41 x_42 x_43 ∧ S w' ∧ ∀ (g : Nat) (w'_2 : World), Fresh w' g w'_2 [Value.slice x x_39
 x_40, Value.slice none 0 0, Value.slice x_41 x_42 x_43] 157 → S w'_2 ∧ J (some (Addr.mk g 0 none)) w'_2 else J x_19 w) ∧ ∃ (a : Addr), x_10 = some a ∧ ∃ (S : World → Prop),
 S (World.drew (World.drew w)) ∧ ∃ (x : Option Addr) (x_19 x_20 : Nat), (∀ (u : World), S u → World.cell? u (Addr.add a 0) = some (Value.slice x x_19 x_20)) ∧ ∃ (a : Addr), x_18 = some a ∧
 ∃ (x_21 : Option Addr) (x_22 x_23 : Nat), (∀ (u : World), S u → World.cell? u (Addr.add a 0) = some (Value.slice x_21 x_22 x_23)) ∧ ∃ (a : Addr), x_10 = some a ∧ ∃ (x_24 : Option Addr)
 (x_25 x_26 : Nat), (∀ (u : World), S u → World.cell? u (Addr.add a 1) = some (Value.slice x_24 x_25 x_26)) ∧ ∃ (a : Addr), x_18 = some a ∧ ∃ (x_27 : Option Addr) (x_28 x_29 : Nat), (∀ (u
 : World), S u → World.cell? u (Addr.add a 1) = some (Value.slice x_27 x_28 x_29)) ∧ (∀ (g : Nat) (w' : World), Fresh (World.drew (World.drew w)) g w' [Value.slice x x_19 x_20, Value.slice x_21
 x_22 x_23] 155 → S w' ∧ (CallsV Try.prog 140 #[Value.slice (some (Addr.mk g 0 none)) 2 2] w' fun (v : Value) (w' : World) => ∃ (x : Option Addr) (x_30 x_31 : Nat), v = Value.slice x x_30
 x_31 ∧ S w' ∧ ∀ (g : Nat) (w'_1 : World), Fresh w' g w'_1 [Value.slice x_24 x_25 x_26, Value.slice x_27 x_28 x_29] 155 → CallsV Try.prog 140 #[Value.slice (some (Addr.mk g 0 none)) 2 2]
 w'_1 fun (v : Value) (w' : World) => ∃ (x_32 : Option Addr) (x_33 x_34 : Nat), v = Value.slice x_32 x_33 x_34 ∧ ∀ (g : Nat) (w'_2 : World), Fresh w' g w'_2 [Value.slice x x_30 x_31, Value.slice x_32
 x_33 x_34, Value.slice none 0 0] 157 → J (some (Addr.mk g 0 none)) w'_2) ∧ ∀ (g_1 : Nat) (w'_1 : World), Fresh w' g_1 w'_1 [Value.slice x_24 x_25 x_26, Value.slice x_27 x_28 x_29]
 155 → CallsV Try.prog 140 #[Value.slice (some (Addr.mk g 0 none)) 2 2] w'_1 fun (v : Value) (w' : World) => ∃ (x : Option Addr) (x_30 x_31 : Nat), v = Value.slice x x_30 x_31 ∧ CallsV
 Try.prog 140 #[Value.slice (some (Addr.mk g_1 0 none)) 2 2] w' fun (v : Value) (w' : World) => ∃ (x_32 : Option Addr) (x_33 x_34 : Nat), v = Value.slice x_32 x_33 x_34 ∧ ∀ (g : Nat) (w'_2
 : World), Fresh w' g w'_2 [Value.slice x x_30 x_31, Value.slice x_32 x_33 x_34, Value.slice none 0 0] 157 → J (some (Addr.mk g 0 none)) w'_2) ∧ ∀ (g : Nat) (w' : World), Fresh
 (World.drew (World.drew w)) g w' [Value.slice x_24 x_25 x_26, Value.slice x_27 x_28 x_29] 155 → S w' ∧ ∀ (g_1 : Nat) (w'_1 : World), Fresh w' g_1 w'_1 [Value.slice x x_19 x_20, Value.slice x_21 x_22
 x_23] 155 → CallsV Try.prog 140 #[Value.slice (some (Addr.mk g_1 0 none)) 2 2] w'_1 fun (v : Value) (w' : World) => ∃ (x : Option Addr) (x_30 x_31 : Nat), v = Value.slice x x_30 x_31 ∧
 CallsV Try.prog 140 #[Value.slice (some (Addr.mk g 0 none)) 2 2] w' fun (v : Value) (w' : World) => ∃ (x_32 : Option Addr) (x_33 x_34 : Nat), v = Value.slice x_32 x_33 x_34 ∧ ∀ (g : Nat)
 (w'_2 : World), Fresh w' g w'_2 [Value.slice x x_30 x_31, Value.slice x_32 x_33 x_34, Value.slice none 0 0] 157 → J (some (Addr.mk g 0 none)) w'_2
theorem tree_Arena_even.calls (ok : Okay Try.prog) {a : Option Addr} {i : Int} {k : Int} {w : World} {K : Value → World → Prop} (h : tree_Arena_even.W a i k w K) : CallsV Try.prog 135 #[.pointer a, .int .i64 i, .int .i64 k] w K :=
  fnW_calls ok Try.func135 (an := (.named (.seq .auto (.seq .auto (.join [(9, .one .ptr)] .auto (.join [(9, .one .ptr)] .auto (.seq .auto (.seq .auto (.seq .auto (.seq (.seq .auto (.cond (.join [] .auto (.join [] .auto .auto)) (.join [] .auto (.join [] .auto .auto)))) .auto)))))))))) (args := [.pointer a, .int .i64 i, .int .i64 k]) (Eq.mp (by kernel_rfl) h)
noncomputable def bytes_Compare.W : Option Addr → Nat → Nat → Option Addr → Nat → Nat → World → (Value → World → Prop) → Prop := fun (a_A : Option Addr) (a_n a_c : Nat) (b_A : Option Addr) (b_n b_c :
 Nat) (w : World) (K : Value → World → Prop) => ∃ (x : Int) (w' : World), RunsTo Try.prog (callFunc 126 #[Value.slice a_A a_n a_c, Value.slice b_A b_n b_c]) w (Next.value (Value.int IntKind.i64 x)) w' ∧
 K (Value.int IntKind.i64 x) w'
theorem bytes_Compare.calls (ok : Okay Try.prog) {a_A : Option Addr} {a_n : Nat} {a_c : Nat} {b_A : Option Addr} {b_n : Nat} {b_c : Nat} {w : World} {K : Value → World → Prop} (h : bytes_Compare.W a_A a_n a_c b_A b_n b_c w K) : CallsV Try.prog 111 #[.slice a_A a_n a_c, .slice b_A b_n b_c] w K :=
  fnW_calls ok Try.func111 (an := (.named .auto)) (args := [.slice a_A a_n a_c, .slice b_A b_n b_c]) (Eq.mp (by kernel_rfl) h)
end Go.Proofs.Ythfagbfllheneaa
set_option linter.unusedVariables false
set_option linter.unusedSimpArgs false
namespace R1
open Go.Sx

structure V where
  k : Int
  n : Int
  s : ByteArray

def right (v : V) : Bool :=
  if v.k = 0 then decide (v.n = 0 ∧ v.s.size = 0) else if v.k = 1 then decide (v.s.size = 0) else if v.k = 2 ∨ v.k = 3 then decide (v.n = 0 ∧ v.s.size ≤ 65536) else false
def good (v : V) : Prop := (0 ≤ v.k ∧ v.k ≤ 255) ∧ (-9223372036854775808 ≤ v.n ∧ v.n ≤ 9223372036854775807) ∧ v.s.size ≤ Go.maxLen
/-! ## numbers -/
def fits (n : Int) (k : Nat) : Bool := decide (-(2 ^ (8 * k - 1) : Nat) ≤ n ∧ n < (2 ^ (8 * k - 1) : Nat))
def wideFrom (n : Int) : Nat → Nat → Nat
  | 0, k => k
  | f + 1, k => if fits n k then k else wideFrom n f (k + 1)
def wide (n : Int) : Nat := wideFrom n 7 1
def hi (m : Nat) : Nat → List UInt8
  | 0 => []
  | k + 1 => (m / 256 ^ k % 256).toUInt8 :: hi m k
/-! ## keys -/
def esc : List UInt8 → List UInt8
  | [] => []
  | c :: r => if c = 0 then 0 :: 255 :: esc r else c :: esc r
def kpart (v : V) : List UInt8 :=
  if v.k = 0 then [1] else if v.k = 1 then 2 :: hi (v.n + 9223372036854775808).toNat 8 else (if v.k = 2 then 3 else 4) :: esc (sb v.s) ++ [0, 0]
def tn (d : Bool) (l : List UInt8) : List UInt8 := if d then l.map (fun b => ~~~b) else l
def key : List V → List Bool → List UInt8
  | v :: vs, d :: ds => tn d (kpart v) ++ key vs ds
  | _, _ => []
/-! ## rows -/
def body (v : V) : List UInt8 := (if v.k = 1 then hi (v.n % 18446744073709551616).toNat (wide v.n) else []) ++ sb v.s
end R1
set_option linter.unusedVariables false
set_option linter.unusedSimpArgs false
namespace Go.Proofs.Ythfagbfllheneaa
open Go Go.Sx R1
theorem okay : Okay Try.prog := ⟨by kernel_rfl, by kernel_rfl⟩
theorem brnS {l l' : List UInt8} {A B : Prop} (h1 : l ≠ l' → A) (h2 : l = l' → B) : cond (!(ByteArray.toList ⟨l.toArray⟩ == ByteArray.toList ⟨l'.toArray⟩)) A B := by rw [eq_str]; exact brn h1 h2
def vc (v : V) : List Value := [.int .u8 v.k, .int .i64 v.n, .string v.s]
end Go.Proofs.Ythfagbfllheneaa
set_option linter.unusedVariables false
set_option linter.unusedSimpArgs false
namespace T4
open Go.Lib
abbrev Key := List UInt8
abbrev Es := List (Key × Key)
/-! ## the order of keys -/
def lt (a b : Key) : Prop := compareBytes a b < 0
instance (a b : Key) : Decidable (lt a b) := inferInstanceAs (Decidable (_ < _))
theorem cmp_self : ∀ a : Key, compareBytes a a = 0
  | [] => rfl
  | x :: a => by
    have h : ¬ x < x := fun h => by rw [UInt8.lt_iff_toNat_lt] at h; omega
    rw [compareBytes, if_neg h, if_neg h, cmp_self a]
theorem cmp_zero : ∀ a b : Key, compareBytes a b = 0 → a = b
  | [], [], _ => rfl
  | [], _ :: _, h => by simp [compareBytes] at h
  | _ :: _, [], h => by simp [compareBytes] at h
  | x :: a, y :: b, h => by
    rw [compareBytes] at h
    split at h
    · cases h
    · split at h
      · cases h
      · rename_i h1 h2
        rw [UInt8.lt_iff_toNat_lt] at h1 h2
        have : x = y := UInt8.toNat_inj.1 (by omega)
        rw [this, cmp_zero a b h]
theorem cmp_turn : ∀ a b : Key, compareBytes b a = - compareBytes a b
  | [], [] => rfl
  | [], _ :: _ => rfl
  | _ :: _, [] => rfl
  | x :: a, y :: b => by
    rw [compareBytes, compareBytes]
    by_cases h1 : x < y
    · have h2 : ¬ y < x := fun h => by rw [UInt8.lt_iff_toNat_lt] at h h1; omega
      rw [if_neg h2, if_pos h1, if_pos h1]; rfl
    · by_cases h2 : y < x
      · rw [if_pos h2, if_neg h1, if_pos h2]
      · rw [if_neg h2, if_neg h1, if_neg h1, if_neg h2, cmp_turn a b]
theorem cmp_range : ∀ a b : Key, compareBytes a b = -1 ∨ compareBytes a b = 0 ∨ compareBytes a b = 1
  | [], [] => .inr (.inl rfl)
  | [], _ :: _ => .inl rfl
  | _ :: _, [] => .inr (.inr rfl)
  | x :: a, y :: b => by
    rw [compareBytes]
    split
    · exact .inl rfl
    · split
      · exact .inr (.inr rfl)
      · exact cmp_range a b
theorem lt_trans : ∀ {a b c : Key}, lt a b → lt b c → lt a c := by
  intro a
  unfold lt
  induction a with
  | nil =>
    intro b c h1 h2
    cases b with
    | nil => simp [compareBytes] at h1
    | cons y b =>
      cases c with
      | nil => simp [compareBytes] at h2
      | cons z c => simp [compareBytes]
  | cons x a ih =>
    intro b c h1 h2
    cases b with
    | nil => simp [compareBytes] at h1
    | cons y b =>
      cases c with
      | nil => simp [compareBytes] at h2
      | cons z c =>
        rw [compareBytes] at h1 h2 ⊢
        simp only [UInt8.lt_iff_toNat_lt] at h1 h2 ⊢
        split at h1
        · split at h2
          · rw [if_pos (by omega)]; decide
          · split at h2
            · cases h2
            · rw [if_pos (by omega)]; decide
        · split at h1
          · cases h1
          · split at h2
            · rw [if_pos (by omega)]; decide
            · split at h2
              · cases h2
              · rw [if_neg (by omega), if_neg (by omega)]
                exact ih h1 h2
theorem lt_irrefl (a : Key) : ¬ lt a a := by unfold lt; rw [cmp_self]; decide
theorem lt_asymm {a b : Key} (h : lt a b) : ¬ lt b a := fun h' => lt_irrefl a (lt_trans h h')
theorem lt_ne {a b : Key} (h : lt a b) : a ≠ b := fun e => by subst e; exact lt_irrefl a h
theorem lt_tri (a b : Key) : lt a b ∨ a = b ∨ lt b a := by
  unfold lt
  rcases cmp_range a b with h | h | h
  · exact .inl (by omega)
  · exact .inr (.inl (cmp_zero a b h))
  · exact .inr (.inr (by rw [cmp_turn a b]; omega))
theorem nlt {a b : Key} (h : ¬ lt a b) : b = a ∨ lt b a := by
  rcases lt_tri a b with h' | h' | h'
  · exact absurd h' h
  · exact .inl h'.symm
  · exact .inr h'
theorem lt_of_lt_nlt {a b c : Key} (h : lt a b) (h' : ¬ lt c b) : lt a c := by
  rcases nlt h' with e | h2
  · subst e; exact h
  · exact lt_trans h h2
theorem lt_of_nlt_lt {a b c : Key} (h : ¬ lt b a) (h' : lt b c) : lt a c := by
  rcases nlt h with e | h2
  · subst e; exact h'
  · exact lt_trans h2 h'
abbrev Up (ks : List Key) : Prop := ks.Pairwise lt
/-! ## a place among keys -/
def pos (ks : List Key) (key : Key) : Nat := (ks.takeWhile fun k => decide (lt k key)).length
def has (ks : List Key) (key : Key) : Bool := decide (ks[pos ks key]? = some key)
def bel (ks : List Key) (key : Key) : Nat := (ks.takeWhile fun k => !decide (lt key k)).length
theorem pos_le (ks : List Key) (key : Key) : pos ks key ≤ ks.length := by unfold pos; exact (List.takeWhile_sublist _).length_le
theorem bel_le (ks : List Key) (key : Key) : bel ks key ≤ ks.length := by unfold bel; exact (List.takeWhile_sublist _).length_le
theorem pos_cons (k : Key) (ks : List Key) (key : Key) : pos (k :: ks) key = if lt k key then pos ks key + 1 else 0 := by
  unfold pos
  rw [List.takeWhile_cons]
  by_cases h : lt k key <;> simp [h]
theorem bel_cons (k : Key) (ks : List Key) (key : Key) : bel (k :: ks) key = if lt key k then 0 else bel ks key + 1 := by
  unfold bel
  rw [List.takeWhile_cons]
  by_cases h : lt key k <;> simp [h]
theorem has_cons (k : Key) (ks : List Key) (key : Key) : has (k :: ks) key = if lt k key then has ks key else decide (k = key) := by
  unfold has
  rw [pos_cons]
  by_cases h : lt k key <;> simp [h]
theorem bel_pos {ks : List Key} (h : Up ks) (key : Key) : bel ks key = pos ks key + (if has ks key then 1 else 0) := by
  induction ks with
  | nil => rfl
  | cons k ks ih =>
    obtain ⟨h1, h2⟩ := List.pairwise_cons.1 h
    rw [bel_cons, pos_cons, has_cons]
    rcases lt_tri k key with h3 | h3 | h3
    · rw [if_neg (lt_asymm h3), if_pos h3, if_pos h3, ih h2]; omega
    · subst h3
      rw [if_neg (lt_irrefl _), if_neg (lt_irrefl _), if_neg (lt_irrefl _)]
      have : bel ks k = 0 := by
        cases ks with
        | nil => rfl
        | cons y ks => rw [bel_cons, if_pos (h1 y (by simp))]
      simp [this]
    · rw [if_pos h3, if_neg (lt_asymm h3), if_neg (lt_asymm h3)]
      have : decide (k = key) = false := by simpa using (fun e : k = key => lt_irrefl key (e ▸ h3))
      rw [this]; rfl
theorem pos_lt {ks : List Key} {key : Key} {j : Nat} (h : j < pos ks key) (hj : j < ks.length) : lt ks[j] key := by
  induction ks generalizing j with
  | nil => simp at hj
  | cons k ks ih =>
    rw [pos_cons] at h
    split at h
    · cases j with
      | zero => assumption
      | succ j => exact ih (by omega) (by simpa using hj)
    · omega
theorem pos_ge {ks : List Key} (hu : Up ks) {key : Key} {j : Nat} (h : pos ks key ≤ j) (hj : j < ks.length) : ¬ lt ks[j] key := by
  induction ks generalizing j with
  | nil => simp at hj
  | cons k ks ih =>
    obtain ⟨h1, h2⟩ := List.pairwise_cons.1 hu
    rw [pos_cons] at h
    split at h
    · cases j with
      | zero => omega
      | succ j => exact ih h2 (by omega) (by simpa using hj)
    · rename_i hk
      cases j with
      | zero => exact hk
      | succ j =>
        intro h3
        exact hk (lt_trans (h1 (ks[j]'(by simpa using hj)) (by simp)) h3)
theorem pos_unique {ks : List Key} (hu : Up ks) {key : Key} {i : Nat} (hi : i ≤ ks.length) (h1 : ∀ j (hj : j < ks.length), j < i → lt ks[j] key) (h2 : ∀ j (hj : j < ks.length), i ≤ j → ¬ lt ks[j] key) : i = pos ks key := by
  have hp := pos_le ks key
  rcases Nat.lt_trichotomy i (pos ks key) with h | h | h
  · exact absurd (pos_lt h (by omega)) (h2 i (by omega) (Nat.le_refl _))
  · exact h
  · exact absurd (h1 (pos ks key) (by omega) h) (pos_ge hu (Nat.le_refl _) (by omega))
/-! ## entries in order -/
def keysE (es : Es) : List Key := es.map (·.1)
def valsE (es : Es) : List Key := es.map (·.2)
abbrev UpE (es : Es) : Prop := Up (keysE es)
def insE (key val : Key) : Es → Es
  | [] => [(key, val)]
  | (k, v) :: r => if lt k key then (k, v) :: insE key val r else if k = key then (key, val) :: r else (key, val) :: (k, v) :: r
def delE (key : Key) : Es → Es
  | [] => []
  | (k, v) :: r => if lt k key then (k, v) :: delE key r else if k = key then r else (k, v) :: r
def getE (key : Key) : Es → Option Key
  | [] => none
  | (k, v) :: r => if lt k key then getE key r else if k = key then some v else none
def inE (key : Key) (es : Es) : Bool := (getE key es).isSome
def aftE (key : Key) (at_ : Bool) : Es → Option (Key × Key)
  | [] => none
  | (k, v) :: r => if lt key k ∨ (at_ = true ∧ k = key) then some (k, v) else aftE key at_ r
def befE (key : Key) (at_ : Bool) : Es → Option (Key × Key)
  | [] => none
  | (k, v) :: r => if lt k key ∨ (at_ = true ∧ k = key) then (match befE key at_ r with | some x => some x | none => some (k, v)) else none
theorem insE_low {key val : Key} : ∀ {a b : Es}, (∀ x ∈ a, lt x.1 key) → insE key val (a ++ b) = a ++ insE key val b
  | [], b, _ => rfl
  | (k, v) :: a, b, h => by
    rw [List.cons_append, insE, if_pos (h (k, v) (by simp)), insE_low (fun x hx => h x (by simp [hx])), List.cons_append]
theorem insE_high {key val : Key} : ∀ {a b : Es}, (∀ x ∈ b, lt key x.1) → insE key val (a ++ b) = insE key val a ++ b
  | [], [], _ => rfl
  | [], (k, v) :: b, h => by
    have h1 := h (k, v) (by simp)
    have : k ≠ key := fun e => lt_ne h1 e.symm
    show insE key val ((k, v) :: b) = _
    have h2 : ¬ lt k key := lt_asymm h1
    rw [insE, insE, if_neg h2, if_neg this]; rfl
  | (k, v) :: a, b, h => by
    rw [List.cons_append, insE, insE]
    split
    · rw [insE_high h]; rfl
    · split <;> rfl
theorem delE_low {key : Key} : ∀ {a b : Es}, (∀ x ∈ a, lt x.1 key) → delE key (a ++ b) = a ++ delE key b
  | [], b, _ => rfl
  | (k, v) :: a, b, h => by
    rw [List.cons_append, delE, if_pos (h (k, v) (by simp)), delE_low (fun x hx => h x (by simp [hx])), List.cons_append]
theorem delE_high {key : Key} : ∀ {a b : Es}, (∀ x ∈ b, lt key x.1) → delE key (a ++ b) = delE key a ++ b
  | [], [], _ => rfl
  | [], (k, v) :: b, h => by
    have h1 := h (k, v) (by simp)
    have : k ≠ key := fun e => lt_ne h1 e.symm
    show delE key ((k, v) :: b) = _
    have h2 : ¬ lt k key := lt_asymm h1
    rw [delE, delE, if_neg h2, if_neg this]; rfl
  | (k, v) :: a, b, h => by
    rw [List.cons_append, delE, delE]
    split
    · rw [delE_high h]; rfl
    · split <;> rfl
theorem getE_low {key : Key} : ∀ {a b : Es}, (∀ x ∈ a, lt x.1 key) → getE key (a ++ b) = getE key b
  | [], b, _ => rfl
  | (k, v) :: a, b, h => by
    rw [List.cons_append, getE, if_pos (h (k, v) (by simp)), getE_low (fun x hx => h x (by simp [hx]))]
theorem getE_high {key : Key} : ∀ {a b : Es}, (∀ x ∈ b, lt key x.1) → getE key (a ++ b) = getE key a
  | [], [], _ => rfl
  | [], (k, v) :: b, h => by
    have h1 := h (k, v) (by simp)
    have : k ≠ key := fun e => lt_ne h1 e.symm
    show getE key ((k, v) :: b) = _
    have h2 : ¬ lt k key := lt_asymm h1
    rw [getE, getE, if_neg h2, if_neg this]
  | (k, v) :: a, b, h => by
    rw [List.cons_append, getE, getE]
    split
    · rw [getE_high h]
    · split <;> rfl
theorem aftE_low {key : Key} {at_ : Bool} : ∀ {a b : Es}, (∀ x ∈ a, lt x.1 key) → aftE key at_ (a ++ b) = aftE key at_ b
  | [], b, _ => rfl
  | (k, v) :: a, b, h => by
    have h1 := h (k, v) (by simp)
    have h2 : ¬ (lt key k ∨ (at_ = true ∧ k = key)) := by
      rintro (h' | ⟨_, h'⟩)
      · exact lt_asymm h1 h'
      · exact lt_ne h1 h'
    rw [List.cons_append, aftE, if_neg h2, aftE_low (fun x hx => h x (by simp [hx]))]
theorem aftE_app {key : Key} {at_ : Bool} : ∀ {a b : Es}, aftE key at_ (a ++ b) = match aftE key at_ a with | some x => some x | none => aftE key at_ b
  | [], b => rfl
  | (k, v) :: a, b => by
    rw [List.cons_append, aftE, aftE]
    split
    · rfl
    · exact aftE_app
theorem aftE_head {key : Key} {at_ : Bool} {b : Es} (h : ∀ x ∈ b, lt key x.1) : aftE key at_ b = b.head? := by
  cases b with
  | nil => rfl
  | cons x b => obtain ⟨k, v⟩ := x; rw [aftE, if_pos (.inl (h (k, v) (by simp)))]; rfl
theorem befE_high {key : Key} {at_ : Bool} : ∀ {a b : Es}, (∀ x ∈ b, lt key x.1) → befE key at_ (a ++ b) = befE key at_ a
  | [], [], _ => rfl
  | [], (k, v) :: b, h => by
    have h1 := h (k, v) (by simp)
    have h2 : ¬ (lt k key ∨ (at_ = true ∧ k = key)) := by
      rintro (h' | ⟨_, h'⟩)
      · exact lt_asymm h1 h'
      · exact lt_ne h1 h'.symm
    show befE key at_ ((k, v) :: b) = _
    rw [befE, befE, if_neg h2]
  | (k, v) :: a, b, h => by
    rw [List.cons_append, befE, befE, befE_high h]
theorem befE_low {key : Key} {at_ : Bool} : ∀ {a b : Es}, (∀ x ∈ a, lt x.1 key) → befE key at_ (a ++ b) = match befE key at_ b with | some x => some x | none => a.getLast?
  | [], b, _ => by cases h : befE key at_ b <;> simp [h]
  | (k, v) :: a, b, h => by
    have h1 := h (k, v) (by simp)
    rw [List.cons_append, befE, if_pos (.inl h1), befE_low (fun x hx => h x (by simp [hx]))]
    cases befE key at_ b with
    | some x => rfl
    | none =>
      cases a with
      | nil => rfl
      | cons y a => simp [List.getLast?_cons]
theorem keysE_append (a b : Es) : keysE (a ++ b) = keysE a ++ keysE b := by simp [keysE]
theorem valsE_append (a b : Es) : valsE (a ++ b) = valsE a ++ valsE b := by simp [valsE]
theorem keysE_length (a : Es) : (keysE a).length = a.length := by simp [keysE]
theorem valsE_length (a : Es) : (valsE a).length = a.length := by simp [valsE]
theorem ins_has {key val : Key} : ∀ {es : Es}, has (keysE es) key = true → keysE (insE key val es) = keysE es ∧ valsE (insE key val es) = (valsE es).set (pos (keysE es) key) val
  | [], h => by simp [has, keysE, pos] at h
  | (k, v) :: r, h => by
    simp only [keysE, valsE, List.map_cons] at h ⊢
    rw [has_cons] at h
    rw [insE, pos_cons]
    by_cases h1 : lt k key
    · rw [if_pos h1] at h ⊢
      rw [if_pos h1]
      obtain ⟨h2, h3⟩ := ins_has (val := val) (es := r) h
      simp only [keysE, valsE] at h2 h3
      simp only [List.map_cons, h2, h3, List.set_cons_succ, and_self]
    · rw [if_neg h1] at h ⊢
      rw [if_neg h1, if_pos (of_decide_eq_true h)]
      have := of_decide_eq_true h
      subst this
      simp
theorem ins_no {key val : Key} : ∀ {es : Es}, has (keysE es) key = false → keysE (insE key val es) = (keysE es).insertIdx (pos (keysE es) key) key ∧ valsE (insE key val es) = (valsE es).insertIdx (pos (keysE es) key) val
  | [], h => by simp [keysE, valsE, insE, pos]
  | (k, v) :: r, h => by
    simp only [keysE, valsE, List.map_cons] at h ⊢
    rw [has_cons] at h
    rw [insE, pos_cons]
    by_cases h1 : lt k key
    · rw [if_pos h1] at h ⊢
      rw [if_pos h1]
      obtain ⟨h2, h3⟩ := ins_no (val := val) (es := r) h
      simp only [keysE, valsE] at h2 h3
      simp only [List.map_cons, h2, h3, List.insertIdx_succ_cons, and_self]
    · rw [if_neg h1] at h ⊢
      rw [if_neg h1, if_neg (of_decide_eq_false h)]
      simp
theorem del_has {key : Key} : ∀ {es : Es}, has (keysE es) key = true → keysE (delE key es) = (keysE es).eraseIdx (pos (keysE es) key) ∧ valsE (delE key es) = (valsE es).eraseIdx (pos (keysE es) key)
  | [], h => by simp [has, keysE, pos] at h
  | (k, v) :: r, h => by
    simp only [keysE, valsE, List.map_cons] at h ⊢
    rw [has_cons] at h
    rw [delE, pos_cons]
    by_cases h1 : lt k key
    · rw [if_pos h1] at h ⊢
      rw [if_pos h1]
      obtain ⟨h2, h3⟩ := del_has (es := r) h
      simp only [keysE, valsE] at h2 h3
      simp only [List.map_cons, h2, h3, List.eraseIdx_cons_succ, and_self]
    · rw [if_neg h1] at h ⊢
      rw [if_neg h1, if_pos (of_decide_eq_true h)]
      simp
theorem del_no {key : Key} : ∀ {es : Es}, has (keysE es) key = false → delE key es = es
  | [], h => rfl
  | (k, v) :: r, h => by
    simp only [keysE, List.map_cons] at h
    rw [has_cons] at h
    rw [delE]
    by_cases h1 : lt k key
    · rw [if_pos h1] at h ⊢
      rw [del_no (es := r) h]
    · rw [if_neg h1] at h ⊢
      rw [if_neg (of_decide_eq_false h)]
theorem get_has {key : Key} : ∀ {es : Es}, getE key es = if has (keysE es) key then (valsE es)[pos (keysE es) key]? else none
  | [] => by simp [getE, has, keysE, pos]
  | (k, v) :: r => by
    simp only [keysE, valsE, List.map_cons]
    rw [has_cons, pos_cons, getE]
    by_cases h1 : lt k key
    · rw [if_pos h1, if_pos h1, if_pos h1, get_has (es := r)]
      simp [keysE, valsE]
    · rw [if_neg h1, if_neg h1, if_neg h1]
      by_cases h2 : k = key <;> simp [h2]
theorem aft_pos {key : Key} {at_ : Bool} : ∀ {es : Es}, UpE es → aftE key at_ es = es[pos (keysE es) key + (if has (keysE es) key && !at_ then 1 else 0)]?
  | [], _ => by simp [aftE]
  | (k, v) :: r, hu => by
    have hu : Up (k :: keysE r) := hu
    obtain ⟨h1, h2⟩ := List.pairwise_cons.1 hu
    show aftE key at_ ((k, v) :: r) = ((k, v) :: r)[pos (k :: keysE r) key + (if has (k :: keysE r) key && !at_ then 1 else 0)]?
    rw [has_cons, pos_cons, aftE]
    rcases lt_tri k key with h3 | h3 | h3
    · have h4 : ¬ (lt key k ∨ (at_ = true ∧ k = key)) := by
        rintro (h' | ⟨_, h'⟩)
        · exact lt_asymm h3 h'
        · exact lt_ne h3 h'
      rw [if_neg h4, if_pos h3, if_pos h3, aft_pos h2, Nat.add_right_comm]
      simp
    · subst h3
      rw [if_neg (lt_irrefl _), if_neg (lt_irrefl _), decide_eq_true rfl]
      cases at_ with
      | true => rw [if_pos (.inr ⟨rfl, rfl⟩)]; simp
      | false =>
        rw [if_neg (by rintro (h | ⟨h, _⟩); exact lt_irrefl _ h; cases h)]
        have : aftE k false r = r.head? := aftE_head (fun x hx => h1 x.1 (List.mem_map.2 ⟨x, hx, rfl⟩))
        rw [this]
        cases r <;> simp
    · rw [if_pos (.inl h3), if_neg (lt_asymm h3), if_neg (lt_asymm h3)]
      have : decide (k = key) = false := by simpa using (fun e : k = key => lt_irrefl key (e ▸ h3))
      rw [this]; simp
theorem bef_pos {key : Key} {at_ : Bool} : ∀ {es : Es}, UpE es → befE key at_ es = (if has (keysE es) key && at_ then es[pos (keysE es) key]? else if pos (keysE es) key = 0 then none else es[pos (keysE es) key - 1]?)
  | [], _ => by simp [befE, has, keysE, pos]
  | (k, v) :: r, hu => by
    have hu : Up (k :: keysE r) := hu
    obtain ⟨h1, h2⟩ := List.pairwise_cons.1 hu
    show befE key at_ ((k, v) :: r) = (if has (k :: keysE r) key && at_ then ((k, v) :: r)[pos (k :: keysE r) key]? else if pos (k :: keysE r) key = 0 then none else ((k, v) :: r)[pos (k :: keysE r) key - 1]?)
    rw [has_cons, pos_cons, befE]
    rcases lt_tri k key with h3 | h3 | h3
    · rw [if_pos (.inl h3), if_pos h3, if_pos h3, bef_pos h2]
      have hpl := pos_le (keysE r) key
      rw [keysE_length] at hpl
      cases hh : (has (keysE r) key && at_) with
      | true =>
        simp only [if_true]
        have hl : pos (keysE r) key < r.length := by
          have : has (keysE r) key = true := by simp at hh; exact hh.1
          have := of_decide_eq_true this
          have := (List.getElem?_eq_some_iff.1 this).1
          rwa [keysE_length] at this
        rw [List.getElem?_eq_getElem hl]
        simp [hl]
      | false =>
        simp only [Bool.false_eq_true, if_false, Nat.add_eq_zero_iff, Nat.succ_ne_self, and_false, Nat.add_sub_cancel]
        by_cases h0 : pos (keysE r) key = 0
        · rw [if_pos h0, h0]; simp
        · rw [if_neg h0]
          have hl : pos (keysE r) key - 1 < r.length := by omega
          rw [List.getElem?_eq_getElem hl]
          obtain ⟨q, hq⟩ : ∃ q, pos (keysE r) key = q + 1 := ⟨pos (keysE r) key - 1, by omega⟩
          simp [hq] at hl ⊢
    · subst h3
      rw [if_neg (lt_irrefl _), if_neg (lt_irrefl _), decide_eq_true rfl]
      have hb : befE k at_ r = none := by
        cases r with
        | nil => rfl
        | cons y r =>
          have h4 := h1 y.1 (by simp [keysE])
          obtain ⟨y1, y2⟩ := y
          rw [befE, if_neg]
          rintro (h' | ⟨_, h'⟩)
          · exact lt_asymm h4 h'
          · exact lt_ne h4 h'.symm
      cases at_ with
      | true => rw [if_pos (.inr ⟨rfl, rfl⟩), hb]; simp
      | false => rw [if_neg (by rintro (h | ⟨h, _⟩); exact lt_irrefl _ h; cases h)]; simp
    · have h4 : ¬ (lt k key ∨ (at_ = true ∧ k = key)) := by
        rintro (h' | ⟨_, h'⟩)
        · exact lt_asymm h3 h'
        · exact lt_ne h3 h'.symm
      rw [if_neg h4, if_neg (lt_asymm h3), if_neg (lt_asymm h3)]
      have : decide (k = key) = false := by simpa using (fun e : k = key => lt_irrefl key (e ▸ h3))
      rw [this]; simp
theorem insE_mem {key val : Key} : ∀ {es : Es} {x : Key × Key}, x ∈ insE key val es → x = (key, val) ∨ x ∈ es
  | [], x, h => by simp [insE] at h; exact .inl h
  | (k, v) :: r, x, h => by
    rw [insE] at h
    split at h
    · rcases List.mem_cons.1 h with h | h
      · exact .inr (by simp [h])
      · rcases insE_mem h with h | h
        · exact .inl h
        · exact .inr (by simp [h])
    · split at h
      · rcases List.mem_cons.1 h with h | h
        · exact .inl h
        · exact .inr (by simp [h])
      · rcases List.mem_cons.1 h with h | h
        · exact .inl h
        · exact .inr h
theorem insE_up {key val : Key} : ∀ {es : Es}, UpE es → UpE (insE key val es)
  | [], _ => by show Up [key]; exact List.pairwise_singleton _ _
  | (k, v) :: r, hu => by
    have hu : Up (k :: keysE r) := hu
    obtain ⟨h1, h2⟩ := List.pairwise_cons.1 hu
    rw [insE]
    split
    · rename_i h3
      show Up (k :: keysE (insE key val r))
      refine List.pairwise_cons.2 ⟨fun y hy => ?_, insE_up h2⟩
      obtain ⟨x, hx, rfl⟩ := List.mem_map.1 hy
      rcases insE_mem hx with rfl | hx
      · exact h3
      · exact h1 x.1 (List.mem_map.2 ⟨x, hx, rfl⟩)
    · split
      · rename_i h3 h4
        subst h4
        exact hu
      · rename_i h3 h4
        show Up (key :: k :: keysE r)
        have h5 : lt key k := (nlt h3).resolve_left (fun e => h4 e.symm)
        refine List.pairwise_cons.2 ⟨fun y hy => ?_, hu⟩
        rcases List.mem_cons.1 hy with rfl | hy
        · exact h5
        · exact lt_trans h5 (h1 y hy)
theorem delE_sub {key : Key} : ∀ {es : Es}, (delE key es).Sublist es
  | [] => List.Sublist.slnil
  | (k, v) :: r => by
    rw [delE]
    split
    · exact delE_sub.cons_cons _
    · split
      · exact List.sublist_cons_self _ _
      · exact List.Sublist.refl _
theorem delE_up {key : Key} {es : Es} (h : UpE es) : UpE (delE key es) := List.Pairwise.sublist (delE_sub.map _) h
theorem insE_len {key val : Key} : ∀ {es : Es}, (insE key val es).length = es.length + (if has (keysE es) key then 0 else 1)
  | [] => by simp [insE, has, keysE, pos]
  | (k, v) :: r => by
    have ih := insE_len (key := key) (val := val) (es := r)
    show _ = _ + (if has (k :: keysE r) key then 0 else 1)
    rw [insE, has_cons]
    by_cases h1 : lt k key
    · rw [if_pos h1, if_pos h1, List.length_cons, List.length_cons, ih]; omega
    · rw [if_neg h1, if_neg h1]
      by_cases h2 : k = key
      · rw [if_pos h2]; simp [h2]
      · rw [if_neg h2]; simp [h2]
theorem delE_len {key : Key} : ∀ {es : Es}, (delE key es).length + (if has (keysE es) key then 1 else 0) = es.length
  | [] => by simp [delE, has, keysE, pos]
  | (k, v) :: r => by
    have ih := delE_len (key := key) (es := r)
    show _ + (if has (k :: keysE r) key then 1 else 0) = _
    rw [delE, has_cons]
    by_cases h1 : lt k key
    · rw [if_pos h1, if_pos h1, List.length_cons, List.length_cons, ← ih]; omega
    · rw [if_neg h1, if_neg h1]
      by_cases h2 : k = key
      · rw [if_pos h2]; simp [h2]
      · rw [if_neg h2]; simp [h2]
end T4
