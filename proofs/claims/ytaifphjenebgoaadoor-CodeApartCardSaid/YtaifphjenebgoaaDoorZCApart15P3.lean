/- Part 3 of the texts of this claim: the engine, contracts, plain laws. -/
import Derived.Test.YtaifphjenebgoaaDoorProg
import Derived.Test.YtaifphjenebgoaaDoorZCApart15P1
import Derived.Test.YtaifphjenebgoaaDoorZCApart15P2
/- The preconditions of Go functions, printed by a program of this workplace (nests.py); each is proved to be the engine's own. -/
set_option linter.unusedVariables false
set_option maxRecDepth 100000
namespace Go.Proofs.YtaifphjenebgoaaDoor
open Go Go.Sx
noncomputable def code_writer_put.W : Option Addr → Option Addr → Nat → Nat → World → (Value → World → Prop) → Prop := fun (wx l_A : Option Go.Addr) (l_n l_c : Nat) (w : Go.World) (K : Go.Value →
 Go.World → Prop) => ∃ (I : Int → Go.World → Prop), ∃ (μ : Int → Go.World → Nat), I (0 : Int) w ∧ ∀ (x : Int) (w : Go.World), I x w → bif Decidable.decide (x < (↑l_n : Int)) then ∃ (ad : Go.Addr), l_A =
 Option.some ad ∧ ((0 : Int) ≤ x ∧ x < (↑l_n : Int)) ∧ ∃ (x_1 : Int), Go.World.cell? w (Go.Addr.add ad (Int.toNat x * (1 : Nat))) = Option.some (Go.Value.int Go.IntKind.i64 x_1) ∧ ∃ (a : Go.Addr), wx =
 Option.some a ∧ ∃ (x_2 : Option Go.Addr), ∃ (x_3 : Nat), ∃ (x_4 : Nat), Go.World.cell? w (Go.Addr.add a (0 : Nat)) = Option.some (Go.Value.slice x_2 x_3 x_4) ∧ Go.Sx.CallsV Go.Proofs.Tryd.prog (65 :
 Nat) #[Go.Value.slice x_2 x_3 x_4, Go.Value.int Go.IntKind.u64 (Go.IntKind.wrap Go.IntKind.u64 x_1)] w fun (v : Go.Value) (w' : Go.World) => ∃ (x_5 : Option Go.Addr), ∃ (x_6 : Nat), ∃ (x_7 : Nat), v =
 Go.Value.slice x_5 x_6 x_7 ∧ ∃ (a : Go.Addr), wx = Option.some a ∧ Go.Sx.stOK (Go.Addr.add a (0 : Nat)) (0 : Nat) [Go.Value.slice x_5 x_6 x_7] w' ∧ ∀ (w'_1 : Go.World), w'_1 = Go.Sx.setAll (Go.Addr.add
 a (0 : Nat)) (0 : Nat) [Go.Value.slice x_5 x_6 x_7] w' → I (Go.IntKind.wrap Go.IntKind.i64 (x + (1 : Int))) w'_1 ∧ μ (Go.IntKind.wrap Go.IntKind.i64 (x + (1 : Int))) w'_1 < μ x w else K (Go.Value.tuple
 #[]) w
theorem code_writer_put.eq (wx : Option Addr) (l_A : Option Addr) (l_n : Nat) (l_c : Nat) (w : World) (K : Value → World → Prop) : code_writer_put.W wx l_A l_n l_c w K = fnW Tryd.prog Tryd.f28 (.named (.seq .auto (.block (.loop [(8, .one (.int .i64))] .auto)))) [.pointer wx, .slice l_A l_n l_c] w K := by kernel_rfl
theorem code_writer_put.calls (ok : Okay Tryd.prog) {wx : Option Addr} {l_A : Option Addr} {l_n : Nat} {l_c : Nat} {w : World} {K : Value → World → Prop} (h : code_writer_put.W wx l_A l_n l_c w K) : CallsV Tryd.prog 28 #[.pointer wx, .slice l_A l_n l_c] w K :=
  fnW_calls ok Tryd.func28 (an := (.named (.seq .auto (.block (.loop [(8, .one (.int .i64))] .auto))))) (args := [.pointer wx, .slice l_A l_n l_c]) (by rw [← code_writer_put.eq]; exact h)
noncomputable def code_writer_flag.W : Option Addr → Option Addr → Nat → Nat → World → (Value → World → Prop) → Prop := fun (wx l_A : Option Go.Addr) (l_n l_c : Nat) (w : Go.World) (K : Go.Value →
 Go.World → Prop) => ∃ (I : Int → Go.World → Prop), ∃ (μ : Int → Go.World → Nat), I (0 : Int) w ∧ ∀ (x : Int) (w : Go.World), I x w → bif Decidable.decide (x < (↑l_n : Int)) then ∃ (ad : Go.Addr), l_A =
 Option.some ad ∧ ((0 : Int) ≤ x ∧ x < (↑l_n : Int)) ∧ ∃ (x_1 : Bool), Go.World.cell? w (Go.Addr.add ad (Int.toNat x * (1 : Nat))) = Option.some (Go.Value.bool x_1) ∧ bif x_1 then ∀ (g : Nat) (w' :
 Go.World), Go.Sx.Fresh w g w' [Go.Value.int Go.IntKind.i64 (1 : Int)] (3 : Nat) → Go.Sx.CallsV Go.Proofs.Tryd.prog (28 : Nat) #[Go.Value.pointer wx, Go.Value.slice (Option.some (Go.Addr.mk g (0 : Nat)
 Option.none)) (1 : Nat) (1 : Nat)] w' fun (v : Go.Value) (w' : Go.World) => v = Go.Value.tuple #[] ∧ I (Go.IntKind.wrap Go.IntKind.i64 (x + (1 : Int))) w' ∧ μ (Go.IntKind.wrap Go.IntKind.i64 (x + (1 :
 Int))) w' < μ x w else ∀ (g : Nat) (w' : Go.World), Go.Sx.Fresh w g w' [Go.Value.int Go.IntKind.i64 (0 : Int)] (3 : Nat) → Go.Sx.CallsV Go.Proofs.Tryd.prog (28 : Nat) #[Go.Value.pointer wx,
 Go.Value.slice (Option.some (Go.Addr.mk g (0 : Nat) Option.none)) (1 : Nat) (1 : Nat)] w' fun (v : Go.Value) (w' : Go.World) => v = Go.Value.tuple #[] ∧ I (Go.IntKind.wrap Go.IntKind.i64 (x + (1 :
 Int))) w' ∧ μ (Go.IntKind.wrap Go.IntKind.i64 (x + (1 : Int))) w' < μ x w else K (Go.Value.tuple #[]) w
theorem code_writer_flag.eq (wx : Option Addr) (l_A : Option Addr) (l_n : Nat) (l_c : Nat) (w : World) (K : Value → World → Prop) : code_writer_flag.W wx l_A l_n l_c w K = fnW Tryd.prog Tryd.f32 (.named (.seq .auto (.block (.loop [(9, .one (.int .i64))] .auto)))) [.pointer wx, .slice l_A l_n l_c] w K := by kernel_rfl
theorem code_writer_flag.calls (ok : Okay Tryd.prog) {wx : Option Addr} {l_A : Option Addr} {l_n : Nat} {l_c : Nat} {w : World} {K : Value → World → Prop} (h : code_writer_flag.W wx l_A l_n l_c w K) : CallsV Tryd.prog 32 #[.pointer wx, .slice l_A l_n l_c] w K :=
  fnW_calls ok Tryd.func32 (an := (.named (.seq .auto (.block (.loop [(9, .one (.int .i64))] .auto))))) (args := [.pointer wx, .slice l_A l_n l_c]) (by rw [← code_writer_flag.eq]; exact h)
noncomputable def code_writer_text.W : Option Addr → ByteArray → World → (Value → World → Prop) → Prop := fun (wx : Option Go.Addr) (s : ByteArray) (w : Go.World) (K : Go.Value → Go.World → Prop) => ∃
 (a : Go.Addr), wx = Option.some a ∧ ∃ (x : Option Go.Addr), ∃ (x_1 : Nat), ∃ (x_2 : Nat), Go.World.cell? w (Go.Addr.add a (0 : Nat)) = Option.some (Go.Value.slice x x_1 x_2) ∧ ∃ (x_3 : Option Go.Addr),
 ∃ (x_4 : Nat), ∃ (x_5 : Nat), ∃ (w' : Go.World), Go.Sx.RunsTo Go.Proofs.Tryd.prog (Go.convert (9 : Nat) (45 : Nat) (Go.Value.string s)) w (Go.Value.slice x_3 x_4 x_5) w' ∧ Go.Sx.CallsV
 Go.Proofs.Tryd.prog (31 : Nat) #[Go.Value.slice x x_1 x_2, Go.Value.slice x_3 x_4 x_5] w' fun (v : Go.Value) (w' : Go.World) => ∃ (x : Option Go.Addr), ∃ (x_6 : Nat), ∃ (x_7 : Nat), v = Go.Value.slice
 x x_6 x_7 ∧ ∃ (a : Go.Addr), wx = Option.some a ∧ Go.Sx.stOK (Go.Addr.add a (0 : Nat)) (0 : Nat) [Go.Value.slice x x_6 x_7] w' ∧ ∀ (w'_1 : Go.World), w'_1 = Go.Sx.setAll (Go.Addr.add a (0 : Nat)) (0 :
 Nat) [Go.Value.slice x x_6 x_7] w' → K (Go.Value.tuple #[]) w'_1
theorem code_writer_text.eq (wx : Option Addr) (s : ByteArray) (w : World) (K : Value → World → Prop) : code_writer_text.W wx s w K = fnW Tryd.prog Tryd.f29 (.named .auto) [.pointer wx, .string s] w K := by kernel_rfl
theorem code_writer_text.calls (ok : Okay Tryd.prog) {wx : Option Addr} {s : ByteArray} {w : World} {K : Value → World → Prop} (h : code_writer_text.W wx s w K) : CallsV Tryd.prog 29 #[.pointer wx, .string s] w K :=
  fnW_calls ok Tryd.func29 (an := (.named .auto)) (args := [.pointer wx, .string s]) (by rw [← code_writer_text.eq]; exact h)
noncomputable def code_Bytes.W : Int → Int → Int → Option Addr → Nat → Nat → Option Addr → Nat → Nat → Option Addr → Nat → Nat → Option Addr → Nat → Nat → Option Addr → Nat → Nat → Option Addr → Nat →
 Nat → World → (Value → World → Prop) → Prop := fun (p0 p1 p2 : Int) (p3_A : Option Go.Addr) (p3_n p3_c : Nat) (p4_A : Option Go.Addr) (p4_n p4_c : Nat) (p5_A : Option Go.Addr) (p5_n p5_c : Nat) (p6_A :
 Option Go.Addr) (p6_n p6_c : Nat) (p7_A : Option Go.Addr) (p7_n p7_c : Nat) (p8_A : Option Go.Addr) (p8_n p8_c : Nat) (w : Go.World) (K : Go.Value → Go.World → Prop) => ∀ (g : Nat) (w' : Go.World),
 Go.Sx.Fresh w g w' [Go.Value.int Go.IntKind.i64 p0, Go.Value.int Go.IntKind.i64 p1, Go.Value.int Go.IntKind.i64 p2, Go.Value.slice p3_A p3_n p3_c, Go.Value.slice p4_A p4_n p4_c, Go.Value.slice p5_A
 p5_n p5_c, Go.Value.slice p6_A p6_n p6_c, Go.Value.slice p7_A p7_n p7_c, Go.Value.slice p8_A p8_n p8_c] (29 : Nat) → ∃ (x : Int), Go.World.cell? w' (Go.Addr.add (Go.Addr.mk g (0 : Nat) Option.none) (0
 : Nat)) = Option.some (Go.Value.int Go.IntKind.i64 x) ∧ ∃ (x_1 : Int), Go.World.cell? w' (Go.Addr.add (Go.Addr.mk g (0 : Nat) Option.none) (1 : Nat)) = Option.some (Go.Value.int Go.IntKind.i64 x_1) ∧ ∃
 (x_2 : Int), Go.World.cell? w' (Go.Addr.add (Go.Addr.mk g (0 : Nat) Option.none) (2 : Nat)) = Option.some (Go.Value.int Go.IntKind.i64 x_2) ∧ ∃ (x_3 : Option Go.Addr), ∃ (x_4 : Nat), ∃ (x_5 : Nat),
 Go.World.cell? w' (Go.Addr.add (Go.Addr.mk g (0 : Nat) Option.none) (3 : Nat)) = Option.some (Go.Value.slice x_3 x_4 x_5) ∧ ∃ (x_6 : Option Go.Addr), ∃ (x_7 : Nat), ∃ (x_8 : Nat), Go.World.cell? w'
 (Go.Addr.add (Go.Addr.mk g (0 : Nat) Option.none) (4 : Nat)) = Option.some (Go.Value.slice x_6 x_7 x_8) ∧ ∃ (x_9 : Option Go.Addr), ∃ (x_10 : Nat), ∃ (x_11 : Nat), Go.World.cell? w' (Go.Addr.add
 (Go.Addr.mk g (0 : Nat) Option.none) (5 : Nat)) = Option.some (Go.Value.slice x_9 x_10 x_11) ∧ ∃ (x_12 : Option Go.Addr), ∃ (x_13 : Nat), ∃ (x_14 : Nat), Go.World.cell? w' (Go.Addr.add (Go.Addr.mk g (0
 : Nat) Option.none) (6 : Nat)) = Option.some (Go.Value.slice x_12 x_13 x_14) ∧ ∃ (x_15 : Option Go.Addr), ∃ (x_16 : Nat), ∃ (x_17 : Nat), Go.World.cell? w' (Go.Addr.add (Go.Addr.mk g (0 : Nat)
 Option.none) (7 : Nat)) = Option.some (Go.Value.slice x_15 x_16 x_17) ∧ ∃ (x_18 : Option Go.Addr), ∃ (x_19 : Nat), ∃ (x_20 : Nat), Go.World.cell? w' (Go.Addr.add (Go.Addr.mk g (0 : Nat) Option.none) (8
 : Nat)) = Option.some (Go.Value.slice x_18 x_19 x_20) ∧ Go.Sx.CallsV Go.Proofs.Tryd.prog (8 : Nat) #[Go.Value.agg #[Go.Value.int Go.IntKind.i64 x, Go.Value.int Go.IntKind.i64 x_1, Go.Value.int
 Go.IntKind.i64 x_2, Go.Value.slice x_3 x_4 x_5, Go.Value.slice x_6 x_7 x_8, Go.Value.slice x_9 x_10 x_11, Go.Value.slice x_12 x_13 x_14, Go.Value.slice x_15 x_16 x_17, Go.Value.slice x_18 x_19 x_20]]
 w' fun (v : Go.Value) (w' : Go.World) => ∃ (x : Int), v = Go.Value.int Go.IntKind.i64 x ∧ bif !Decidable.decide (x = (0 : Int)) then K (Go.Value.tuple #[Go.Value.slice Option.none (0 : Nat) (0 : Nat),
 Go.Value.int Go.IntKind.i64 x]) w' else ∀ (g_1 : Nat) (w'_1 : Go.World), Go.Sx.Fresh w' g_1 w'_1 [Go.Value.slice Option.none (0 : Nat) (0 : Nat)] (71 : Nat) → ∃ (x : Int), Go.World.cell? w'_1
 (Go.Addr.add (Go.Addr.mk g (0 : Nat) Option.none) (0 : Nat)) = Option.some (Go.Value.int Go.IntKind.i64 x) ∧ ∃ (x_21 : Int), Go.World.cell? w'_1 (Go.Addr.add (Go.Addr.mk g (0 : Nat) Option.none) (1 :
 Nat)) = Option.some (Go.Value.int Go.IntKind.i64 x_21) ∧ ∃ (x_22 : Int), Go.World.cell? w'_1 (Go.Addr.add (Go.Addr.mk g (0 : Nat) Option.none) (2 : Nat)) = Option.some (Go.Value.int Go.IntKind.i64
 x_22) ∧ ∃ (x_23 : Option Go.Addr), ∃ (x_24 : Nat), ∃ (x_25 : Nat), Go.World.cell? w'_1 (Go.Addr.add (Go.Addr.mk g (0 : Nat) Option.none) (3 : Nat)) = Option.some (Go.Value.slice x_23 x_24 x_25) ∧ ∀
 (g_2 : Nat) (w' : Go.World), Go.Sx.Fresh w'_1 g_2 w' [Go.Value.int Go.IntKind.i64 x, Go.Value.int Go.IntKind.i64 x_21, Go.Value.int Go.IntKind.i64 x_22, Go.Value.int Go.IntKind.i64 (↑x_24 : Int)] (3 :
 Nat) → Go.Sx.CallsV Go.Proofs.Tryd.prog (28 : Nat) #[Go.Value.pointer (Option.some (Go.Addr.mk g_1 (0 : Nat) Option.none)), Go.Value.slice (Option.some (Go.Addr.mk g_2 (0 : Nat) Option.none)) (4 : Nat)
 (4 : Nat)] w' fun (v : Go.Value) (w' : Go.World) => v = Go.Value.tuple #[] ∧ ∃ (x : Option Go.Addr), ∃ (x_26 : Nat), ∃ (x_27 : Nat), Go.World.cell? w' (Go.Addr.add (Go.Addr.mk g (0 : Nat) Option.none)
 (3 : Nat)) = Option.some (Go.Value.slice x x_26 x_27) ∧ ∃ (I : Int → Go.World → Prop), ∃ (μ : Int → Go.World → Nat), I (0 : Int) w' ∧ ∀ (x_28 : Int) (w : Go.World), I x_28 w → bif Decidable.decide
 (x_28 < (↑x_26 : Int)) then ∃ (ad : Go.Addr), x = Option.some ad ∧ ((0 : Int) ≤ x_28 ∧ x_28 < (↑x_26 : Int)) ∧ ∃ (x : ByteArray), Go.World.cell? w (Go.Addr.add ad (Int.toNat x_28 * (1 : Nat))) =
 Option.some (Go.Value.string x) ∧ Go.Sx.CallsV Go.Proofs.Tryd.prog (29 : Nat) #[Go.Value.pointer (Option.some (Go.Addr.mk g_1 (0 : Nat) Option.none)), Go.Value.string x] w fun (v : Go.Value) (w' :
 Go.World) => v = Go.Value.tuple #[] ∧ I (Go.IntKind.wrap Go.IntKind.i64 (x_28 + (1 : Int))) w' ∧ μ (Go.IntKind.wrap Go.IntKind.i64 (x_28 + (1 : Int))) w' < μ x_28 w else ∃ (x : Option Go.Addr), ∃ (x_29
 : Nat), ∃ (x_30 : Nat), Go.World.cell? w (Go.Addr.add (Go.Addr.mk g (0 : Nat) Option.none) (4 : Nat)) = Option.some (Go.Value.slice x x_29 x_30) ∧ ∀ (g_3 : Nat) (w' : Go.World), Go.Sx.Fresh w g_3 w'
 [Go.Value.int Go.IntKind.i64 (↑x_29 : Int)] (3 : Nat) → Go.Sx.CallsV Go.Proofs.Tryd.prog (28 : Nat) #[Go.Value.pointer (Option.some (Go.Addr.mk g_1 (0 : Nat) Option.none)), Go.Value.slice (Option.some
 (Go.Addr.mk g_3 (0 : Nat) Option.none)) (1 : Nat) (1 : Nat)] w' fun (v : Go.Value) (w' : Go.World) => v = Go.Value.tuple #[] ∧ ∃ (x : Option Go.Addr), ∃ (x_31 : Nat), ∃ (x_32 : Nat), Go.World.cell? w'
 (Go.Addr.add (Go.Addr.mk g (0 : Nat) Option.none) (4 : Nat)) = Option.some (Go.Value.slice x x_31 x_32) ∧ ∃ (I : Int → Go.World → Prop), ∃ (μ : Int → Go.World → Nat), I (0 : Int) w' ∧ ∀ (x_33 : Int) (w
 : Go.World), I x_33 w → bif Decidable.decide (x_33 < (↑x_31 : Int)) then ∃ (ad : Go.Addr), x = Option.some ad ∧ ((0 : Int) ≤ x_33 ∧ x_33 < (↑x_31 : Int)) ∧ ∃ (x : Int), Go.World.cell? w (Go.Addr.add
 (Go.Addr.add ad (Int.toNat x_33 * (3 : Nat))) (0 : Nat)) = Option.some (Go.Value.int Go.IntKind.u8 x) ∧ ∃ (x_34 : Int), Go.World.cell? w (Go.Addr.add (Go.Addr.add ad (Int.toNat x_33 * (3 : Nat))) (1 :
 Nat)) = Option.some (Go.Value.int Go.IntKind.i64 x_34) ∧ ∃ (x_35 : ByteArray), Go.World.cell? w (Go.Addr.add (Go.Addr.add ad (Int.toNat x_33 * (3 : Nat))) (2 : Nat)) = Option.some (Go.Value.string
 x_35) ∧ ∀ (g : Nat) (w' : Go.World), Go.Sx.Fresh w g w' [Go.Value.int Go.IntKind.u8 (0 : Int), Go.Value.int Go.IntKind.i64 (0 : Int), Go.Value.string (ByteArray.mk #[])] (51 : Nat) → Go.Sx.stOK
 (Go.Addr.mk g (0 : Nat) Option.none) (0 : Nat) [Go.Value.int Go.IntKind.u8 x, Go.Value.int Go.IntKind.i64 x_34, Go.Value.string x_35] w' ∧ ∀ (w'_2 : Go.World), w'_2 = Go.Sx.setAll (Go.Addr.mk g (0 :
 Nat) Option.none) (0 : Nat) [Go.Value.int Go.IntKind.u8 x, Go.Value.int Go.IntKind.i64 x_34, Go.Value.string x_35] w' → ∃ (x : Int), Go.World.cell? w'_2 (Go.Addr.add (Go.Addr.mk g (0 : Nat)
 Option.none) (0 : Nat)) = Option.some (Go.Value.int Go.IntKind.u8 x) ∧ ∃ (x_36 : Int), Go.World.cell? w'_2 (Go.Addr.add (Go.Addr.mk g (0 : Nat) Option.none) (1 : Nat)) = Option.some (Go.Value.int
 Go.IntKind.i64 x_36) ∧ ∃ (x_37 : ByteArray), Go.World.cell? w'_2 (Go.Addr.add (Go.Addr.mk g (0 : Nat) Option.none) (2 : Nat)) = Option.some (Go.Value.string x_37) ∧ ∀ (g : Nat) (w' : Go.World),
 Go.Sx.Fresh w'_2 g w' [Go.Value.int Go.IntKind.u8 x, Go.Value.int Go.IntKind.i64 x_36, Go.Value.string x_37] (51 : Nat) → Go.Sx.CallsV Go.Proofs.Tryd.prog (30 : Nat) #[Go.Value.slice (Option.some
 (Go.Addr.mk g (0 : Nat) Option.none)) (1 : Nat) (1 : Nat)] w' fun (v : Go.Value) (w' : Go.World) => ∃ (x : Option Go.Addr), ∃ (x_38 : Nat), ∃ (x_39 : Nat), ∃ (x_40 : Int), v = Go.Value.tuple
 #[Go.Value.slice x x_38 x_39, Go.Value.int Go.IntKind.i64 x_40] ∧ ∃ (a : Go.Addr), Option.some (Go.Addr.mk g_1 (0 : Nat) Option.none) = Option.some a ∧ ∃ (x_41 : Option Go.Addr), ∃ (x_42 : Nat), ∃
 (x_43 : Nat), Go.World.cell? w' (Go.Addr.add a (0 : Nat)) = Option.some (Go.Value.slice x_41 x_42 x_43) ∧ Go.Sx.CallsV Go.Proofs.Tryd.prog (31 : Nat) #[Go.Value.slice x_41 x_42 x_43, Go.Value.slice x
 x_38 x_39] w' fun (v : Go.Value) (w' : Go.World) => ∃ (x : Option Go.Addr), ∃ (x_44 : Nat), ∃ (x_45 : Nat), v = Go.Value.slice x x_44 x_45 ∧ ∃ (a : Go.Addr), Option.some (Go.Addr.mk g_1 (0 : Nat)
 Option.none) = Option.some a ∧ Go.Sx.stOK (Go.Addr.add a (0 : Nat)) (0 : Nat) [Go.Value.slice x x_44 x_45] w' ∧ ∀ (w'_3 : Go.World), w'_3 = Go.Sx.setAll (Go.Addr.add a (0 : Nat)) (0 : Nat)
 [Go.Value.slice x x_44 x_45] w' → ∃ (a : Go.Addr), Option.some (Go.Addr.mk g_1 (0 : Nat) Option.none) = Option.some a ∧ ∃ (x : Option Go.Addr), ∃ (x_46 : Nat), ∃ (x_47 : Nat), Go.World.cell? w'_3
 (Go.Addr.add a (0 : Nat)) = Option.some (Go.Value.slice x x_46 x_47) ∧ bif Decidable.decide ((1048576 : Int) < (↑x_46 : Int)) then K (Go.Value.tuple #[Go.Value.slice Option.none (0 : Nat) (0 : Nat),
 Go.Value.int Go.IntKind.i64 (3 : Int)]) w'_3 else I (Go.IntKind.wrap Go.IntKind.i64 (x_33 + (1 : Int))) w'_3 ∧ μ (Go.IntKind.wrap Go.IntKind.i64 (x_33 + (1 : Int))) w'_3 < μ x_33 w else ∃ (x : Option
 Go.Addr), ∃ (x_34 : Nat), ∃ (x_35 : Nat), Go.World.cell? w (Go.Addr.add (Go.Addr.mk g (0 : Nat) Option.none) (5 : Nat)) = Option.some (Go.Value.slice x x_34 x_35) ∧ ∀ (g_4 : Nat) (w' : Go.World),
 Go.Sx.Fresh w g_4 w' [Go.Value.int Go.IntKind.i64 (↑x_34 : Int)] (3 : Nat) → Go.Sx.CallsV Go.Proofs.Tryd.prog (28 : Nat) #[Go.Value.pointer (Option.some (Go.Addr.mk g_1 (0 : Nat) Option.none)),
 Go.Value.slice (Option.some (Go.Addr.mk g_4 (0 : Nat) Option.none)) (1 : Nat) (1 : Nat)] w' fun (v : Go.Value) (w' : Go.World) => v = Go.Value.tuple #[] ∧ ∃ (x : Option Go.Addr), ∃ (x_36 : Nat), ∃
 (x_37 : Nat), Go.World.cell? w' (Go.Addr.add (Go.Addr.mk g (0 : Nat) Option.none) (5 : Nat)) = Option.some (Go.Value.slice x x_36 x_37) ∧ ∃ (I : Int → Go.World → Prop), ∃ (μ : Int → Go.World → Nat), I
 (0 : Int) w' ∧ ∀ (x_38 : Int) (w : Go.World), I x_38 w → bif Decidable.decide (x_38 < (↑x_36 : Int)) then ∃ (ad : Go.Addr), x = Option.some ad ∧ ((0 : Int) ≤ x_38 ∧ x_38 < (↑x_36 : Int)) ∧ ∃ (x :
 ByteArray), Go.World.cell? w (Go.Addr.add (Go.Addr.add ad (Int.toNat x_38 * (3 : Nat))) (0 : Nat)) = Option.some (Go.Value.string x) ∧ ∃ (x_39 : Bool), Go.World.cell? w (Go.Addr.add (Go.Addr.add ad
 (Int.toNat x_38 * (3 : Nat))) (1 : Nat)) = Option.some (Go.Value.bool x_39) ∧ ∃ (x_40 : Bool), Go.World.cell? w (Go.Addr.add (Go.Addr.add ad (Int.toNat x_38 * (3 : Nat))) (2 : Nat)) = Option.some
 (Go.Value.bool x_40) ∧ ∀ (g : Nat) (w' : Go.World), Go.Sx.Fresh w g w' [Go.Value.string (ByteArray.mk #[]), Go.Value.bool Bool.false, Go.Value.bool Bool.false] (53 : Nat) → Go.Sx.stOK (Go.Addr.mk g (0
 : Nat) Option.none) (0 : Nat) [Go.Value.string x, Go.Value.bool x_39, Go.Value.bool x_40] w' ∧ ∀ (w'_2 : Go.World), w'_2 = Go.Sx.setAll (Go.Addr.mk g (0 : Nat) Option.none) (0 : Nat) [Go.Value.string
 x, Go.Value.bool x_39, Go.Value.bool x_40] w' → ∃ (x : ByteArray), Go.World.cell? w'_2 (Go.Addr.add (Go.Addr.mk g (0 : Nat) Option.none) (0 : Nat)) = Option.some (Go.Value.string x) ∧ Go.Sx.CallsV
 Go.Proofs.Tryd.prog (29 : Nat) #[Go.Value.pointer (Option.some (Go.Addr.mk g_1 (0 : Nat) Option.none)), Go.Value.string x] w'_2 fun (v : Go.Value) (w' : Go.World) => v = Go.Value.tuple #[] ∧ ∃ (x :
 Bool), Go.World.cell? w' (Go.Addr.add (Go.Addr.mk g (0 : Nat) Option.none) (1 : Nat)) = Option.some (Go.Value.bool x) ∧ ∃ (x_41 : Bool), Go.World.cell? w' (Go.Addr.add (Go.Addr.mk g (0 : Nat)
 Option.none) (2 : Nat)) = Option.some (Go.Value.bool x_41) ∧ ∀ (g : Nat) (w'_3 : Go.World), Go.Sx.Fresh w' g w'_3 [Go.Value.bool x, Go.Value.bool x_41] (4 : Nat) → Go.Sx.CallsV Go.Proofs.Tryd.prog (32
 : Nat) #[Go.Value.pointer (Option.some (Go.Addr.mk g_1 (0 : Nat) Option.none)), Go.Value.slice (Option.some (Go.Addr.mk g (0 : Nat) Option.none)) (2 : Nat) (2 : Nat)] w'_3 fun (v : Go.Value) (w' :
 Go.World) => v = Go.Value.tuple #[] ∧ I (Go.IntKind.wrap Go.IntKind.i64 (x_38 + (1 : Int))) w' ∧ μ (Go.IntKind.wrap Go.IntKind.i64 (x_38 + (1 : Int))) w' < μ x_38 w else ∃ (x : Option Go.Addr), ∃ (x_39
 : Nat), ∃ (x_40 : Nat), Go.World.cell? w (Go.Addr.add (Go.Addr.mk g (0 : Nat) Option.none) (6 : Nat)) = Option.some (Go.Value.slice x x_39 x_40) ∧ ∀ (g_5 : Nat) (w' : Go.World), Go.Sx.Fresh w g_5 w'
 [Go.Value.int Go.IntKind.i64 (↑x_39 : Int)] (3 : Nat) → Go.Sx.CallsV Go.Proofs.Tryd.prog (28 : Nat) #[Go.Value.pointer (Option.some (Go.Addr.mk g_1 (0 : Nat) Option.none)), Go.Value.slice (Option.some
 (Go.Addr.mk g_5 (0 : Nat) Option.none)) (1 : Nat) (1 : Nat)] w' fun (v : Go.Value) (w' : Go.World) => v = Go.Value.tuple #[] ∧ ∃ (x : Option Go.Addr), ∃ (x_41 : Nat), ∃ (x_42 : Nat), Go.World.cell? w'
 (Go.Addr.add (Go.Addr.mk g (0 : Nat) Option.none) (6 : Nat)) = Option.some (Go.Value.slice x x_41 x_42) ∧ ∃ (I : Int → Go.World → Prop), ∃ (μ : Int → Go.World → Nat), I (0 : Int) w' ∧ ∀ (x_43 : Int) (w
 : Go.World), I x_43 w → bif Decidable.decide (x_43 < (↑x_41 : Int)) then ∃ (ad : Go.Addr), x = Option.some ad ∧ ((0 : Int) ≤ x_43 ∧ x_43 < (↑x_41 : Int)) ∧ ∃ (x : Option Go.Addr), ∃ (x_44 : Nat), ∃
 (x_45 : Nat), Go.World.cell? w (Go.Addr.add (Go.Addr.add ad (Int.toNat x_43 * (3 : Nat))) (0 : Nat)) = Option.some (Go.Value.slice x x_44 x_45) ∧ ∃ (x_46 : Int), Go.World.cell? w (Go.Addr.add
 (Go.Addr.add ad (Int.toNat x_43 * (3 : Nat))) (1 : Nat)) = Option.some (Go.Value.int Go.IntKind.i64 x_46) ∧ ∃ (x_47 : Bool), Go.World.cell? w (Go.Addr.add (Go.Addr.add ad (Int.toNat x_43 * (3 : Nat)))
 (2 : Nat)) = Option.some (Go.Value.bool x_47) ∧ ∀ (g : Nat) (w' : Go.World), Go.Sx.Fresh w g w' [Go.Value.slice Option.none (0 : Nat) (0 : Nat), Go.Value.int Go.IntKind.i64 (0 : Int), Go.Value.bool
 Bool.false] (56 : Nat) → Go.Sx.stOK (Go.Addr.mk g (0 : Nat) Option.none) (0 : Nat) [Go.Value.slice x x_44 x_45, Go.Value.int Go.IntKind.i64 x_46, Go.Value.bool x_47] w' ∧ ∀ (w'_2 : Go.World), w'_2 =
 Go.Sx.setAll (Go.Addr.mk g (0 : Nat) Option.none) (0 : Nat) [Go.Value.slice x x_44 x_45, Go.Value.int Go.IntKind.i64 x_46, Go.Value.bool x_47] w' → ∃ (x : Option Go.Addr), ∃ (x_48 : Nat), ∃ (x_49 :
 Nat), Go.World.cell? w'_2 (Go.Addr.add (Go.Addr.mk g (0 : Nat) Option.none) (0 : Nat)) = Option.some (Go.Value.slice x x_48 x_49) ∧ ∀ (g_6 : Nat) (w' : Go.World), Go.Sx.Fresh w'_2 g_6 w' [Go.Value.int
 Go.IntKind.i64 (↑x_48 : Int)] (3 : Nat) → Go.Sx.CallsV Go.Proofs.Tryd.prog (28 : Nat) #[Go.Value.pointer (Option.some (Go.Addr.mk g_1 (0 : Nat) Option.none)), Go.Value.slice (Option.some (Go.Addr.mk
 g_6 (0 : Nat) Option.none)) (1 : Nat) (1 : Nat)] w' fun (v : Go.Value) (w' : Go.World) => v = Go.Value.tuple #[] ∧ ∃ (x : Option Go.Addr), ∃ (x_50 : Nat), ∃ (x_51 : Nat), Go.World.cell? w' (Go.Addr.add
 (Go.Addr.mk g (0 : Nat) Option.none) (0 : Nat)) = Option.some (Go.Value.slice x x_50 x_51) ∧ Go.Sx.CallsV Go.Proofs.Tryd.prog (32 : Nat) #[Go.Value.pointer (Option.some (Go.Addr.mk g_1 (0 : Nat)
 Option.none)), Go.Value.slice x x_50 x_51] w' fun (v : Go.Value) (w' : Go.World) => v = Go.Value.tuple #[] ∧ ∃ (x : Int), Go.World.cell? w' (Go.Addr.add (Go.Addr.mk g (0 : Nat) Option.none) (1 : Nat))
 = Option.some (Go.Value.int Go.IntKind.i64 x) ∧ ∀ (g_7 : Nat) (w'_3 : Go.World), Go.Sx.Fresh w' g_7 w'_3 [Go.Value.int Go.IntKind.i64 x] (3 : Nat) → Go.Sx.CallsV Go.Proofs.Tryd.prog (28 : Nat)
 #[Go.Value.pointer (Option.some (Go.Addr.mk g_1 (0 : Nat) Option.none)), Go.Value.slice (Option.some (Go.Addr.mk g_7 (0 : Nat) Option.none)) (1 : Nat) (1 : Nat)] w'_3 fun (v : Go.Value) (w' : Go.World)
 => v = Go.Value.tuple #[] ∧ ∃ (x : Bool), Go.World.cell? w' (Go.Addr.add (Go.Addr.mk g (0 : Nat) Option.none) (2 : Nat)) = Option.some (Go.Value.bool x) ∧ ∀ (g : Nat) (w'_4 : Go.World), Go.Sx.Fresh w'
 g w'_4 [Go.Value.bool x] (4 : Nat) → Go.Sx.CallsV Go.Proofs.Tryd.prog (32 : Nat) #[Go.Value.pointer (Option.some (Go.Addr.mk g_1 (0 : Nat) Option.none)), Go.Value.slice (Option.some (Go.Addr.mk g (0 :
 Nat) Option.none)) (1 : Nat) (1 : Nat)] w'_4 fun (v : Go.Value) (w' : Go.World) => v = Go.Value.tuple #[] ∧ I (Go.IntKind.wrap Go.IntKind.i64 (x_43 + (1 : Int))) w' ∧ μ (Go.IntKind.wrap Go.IntKind.i64
 (x_43 + (1 : Int))) w' < μ x_43 w else ∃ (x : Option Go.Addr), ∃ (x_44 : Nat), ∃ (x_45 : Nat), Go.World.cell? w (Go.Addr.add (Go.Addr.mk g (0 : Nat) Option.none) (7 : Nat)) = Option.some
 (Go.Value.slice x x_44 x_45) ∧ ∀ (g_6 : Nat) (w' : Go.World), Go.Sx.Fresh w g_6 w' [Go.Value.int Go.IntKind.i64 (↑x_44 : Int)] (3 : Nat) → Go.Sx.CallsV Go.Proofs.Tryd.prog (28 : Nat) #[Go.Value.pointer
 (Option.some (Go.Addr.mk g_1 (0 : Nat) Option.none)), Go.Value.slice (Option.some (Go.Addr.mk g_6 (0 : Nat) Option.none)) (1 : Nat) (1 : Nat)] w' fun (v : Go.Value) (w' : Go.World) => v =
 Go.Value.tuple #[] ∧ ∃ (x : Option Go.Addr), ∃ (x_46 : Nat), ∃ (x_47 : Nat), Go.World.cell? w' (Go.Addr.add (Go.Addr.mk g (0 : Nat) Option.none) (7 : Nat)) = Option.some (Go.Value.slice x x_46 x_47) ∧
 ∃ (I : Int → Go.World → Prop), ∃ (μ : Int → Go.World → Nat), I (0 : Int) w' ∧ ∀ (x_48 : Int) (w : Go.World), I x_48 w → bif Decidable.decide (x_48 < (↑x_46 : Int)) then ∃ (ad : Go.Addr), x =
 Option.some ad ∧ ((0 : Int) ≤ x_48 ∧ x_48 < (↑x_46 : Int)) ∧ ∃ (x : ByteArray), Go.World.cell? w (Go.Addr.add (Go.Addr.add ad (Int.toNat x_48 * (2 : Nat))) (0 : Nat)) = Option.some (Go.Value.string x)
 ∧ ∃ (x_49 : Bool), Go.World.cell? w (Go.Addr.add (Go.Addr.add ad (Int.toNat x_48 * (2 : Nat))) (1 : Nat)) = Option.some (Go.Value.bool x_49) ∧ ∀ (g : Nat) (w' : Go.World), Go.Sx.Fresh w g w'
 [Go.Value.string (ByteArray.mk #[]), Go.Value.bool Bool.false] (58 : Nat) → Go.Sx.stOK (Go.Addr.mk g (0 : Nat) Option.none) (0 : Nat) [Go.Value.string x, Go.Value.bool x_49] w' ∧ ∀ (w'_2 : Go.World),
 w'_2 = Go.Sx.setAll (Go.Addr.mk g (0 : Nat) Option.none) (0 : Nat) [Go.Value.string x, Go.Value.bool x_49] w' → ∃ (x : ByteArray), Go.World.cell? w'_2 (Go.Addr.add (Go.Addr.mk g (0 : Nat) Option.none)
 (0 : Nat)) = Option.some (Go.Value.string x) ∧ Go.Sx.CallsV Go.Proofs.Tryd.prog (29 : Nat) #[Go.Value.pointer (Option.some (Go.Addr.mk g_1 (0 : Nat) Option.none)), Go.Value.string x] w'_2 fun (v :
 Go.Value) (w' : Go.World) => v = Go.Value.tuple #[] ∧ ∃ (x : Bool), Go.World.cell? w' (Go.Addr.add (Go.Addr.mk g (0 : Nat) Option.none) (1 : Nat)) = Option.some (Go.Value.bool x) ∧ ∀ (g : Nat) (w'_3 :
 Go.World), Go.Sx.Fresh w' g w'_3 [Go.Value.bool x] (4 : Nat) → Go.Sx.CallsV Go.Proofs.Tryd.prog (32 : Nat) #[Go.Value.pointer (Option.some (Go.Addr.mk g_1 (0 : Nat) Option.none)), Go.Value.slice
 (Option.some (Go.Addr.mk g (0 : Nat) Option.none)) (1 : Nat) (1 : Nat)] w'_3 fun (v : Go.Value) (w' : Go.World) => v = Go.Value.tuple #[] ∧ I (Go.IntKind.wrap Go.IntKind.i64 (x_48 + (1 : Int))) w' ∧ μ
 (Go.IntKind.wrap Go.IntKind.i64 (x_48 + (1 : Int))) w' < μ x_48 w else ∃ (x : Option Go.Addr), ∃ (x_49 : Nat), ∃ (x_50 : Nat), Go.World.cell? w (Go.Addr.add (Go.Addr.mk g (0 : Nat) Option.none) (8 :
 Nat)) = Option.some (Go.Value.slice x x_49 x_50) ∧ ∀ (g_7 : Nat) (w' : Go.World), Go.Sx.Fresh w g_7 w' [Go.Value.int Go.IntKind.i64 (↑x_49 : Int)] (3 : Nat) → Go.Sx.CallsV Go.Proofs.Tryd.prog (28 :
 Nat) #[Go.Value.pointer (Option.some (Go.Addr.mk g_1 (0 : Nat) Option.none)), Go.Value.slice (Option.some (Go.Addr.mk g_7 (0 : Nat) Option.none)) (1 : Nat) (1 : Nat)] w' fun (v : Go.Value) (w' :
 Go.World) => v = Go.Value.tuple #[] ∧ ∃ (x : Option Go.Addr), ∃ (x_51 : Nat), ∃ (x_52 : Nat), Go.World.cell? w' (Go.Addr.add (Go.Addr.mk g (0 : Nat) Option.none) (8 : Nat)) = Option.some
 (Go.Value.slice x x_51 x_52) ∧ ∃ (I : Int → Go.World → Prop), ∃ (μ : Int → Go.World → Nat), I (0 : Int) w' ∧ ∀ (x_53 : Int) (w : Go.World), I x_53 w → bif Decidable.decide (x_53 < (↑x_51 : Int)) then ∃
 (ad : Go.Addr), x = Option.some ad ∧ ((0 : Int) ≤ x_53 ∧ x_53 < (↑x_51 : Int)) ∧ ∃ (x : Int), Go.World.cell? w (Go.Addr.add (Go.Addr.add ad (Int.toNat x_53 * (5 : Nat))) (0 : Nat)) = Option.some
 (Go.Value.int Go.IntKind.u8 x) ∧ ∃ (x_54 : Int), Go.World.cell? w (Go.Addr.add (Go.Addr.add ad (Int.toNat x_53 * (5 : Nat))) (1 : Nat)) = Option.some (Go.Value.int Go.IntKind.i64 x_54) ∧ ∃ (x_55 :
 Int), Go.World.cell? w (Go.Addr.add (Go.Addr.add ad (Int.toNat x_53 * (5 : Nat))) (2 : Nat)) = Option.some (Go.Value.int Go.IntKind.i64 x_55) ∧ ∃ (x_56 : Int), Go.World.cell? w (Go.Addr.add
 (Go.Addr.add ad (Int.toNat x_53 * (5 : Nat))) (3 : Nat)) = Option.some (Go.Value.int Go.IntKind.i64 x_56) ∧ ∃ (x_57 : Int), Go.World.cell? w (Go.Addr.add (Go.Addr.add ad (Int.toNat x_53 * (5 : Nat)))
 (4 : Nat)) = Option.some (Go.Value.int Go.IntKind.i64 x_57) ∧ ∀ (g : Nat) (w' : Go.World), Go.Sx.Fresh w g w' [Go.Value.int Go.IntKind.u8 (0 : Int), Go.Value.int Go.IntKind.i64 (0 : Int), Go.Value.int
 Go.IntKind.i64 (0 : Int), Go.Value.int Go.IntKind.i64 (0 : Int), Go.Value.int Go.IntKind.i64 (0 : Int)] (38 : Nat) → Go.Sx.stOK (Go.Addr.mk g (0 : Nat) Option.none) (0 : Nat) [Go.Value.int
 Go.IntKind.u8 x, Go.Value.int Go.IntKind.i64 x_54, Go.Value.int Go.IntKind.i64 x_55, Go.Value.int Go.IntKind.i64 x_56, Go.Value.int Go.IntKind.i64 x_57] w' ∧ ∀ (w'_2 : Go.World), w'_2 = Go.Sx.setAll
 (Go.Addr.mk g (0 : Nat) Option.none) (0 : Nat) [Go.Value.int Go.IntKind.u8 x, Go.Value.int Go.IntKind.i64 x_54, Go.Value.int Go.IntKind.i64 x_55, Go.Value.int Go.IntKind.i64 x_56, Go.Value.int
 Go.IntKind.i64 x_57] w' → ∃ (x : Int), Go.World.cell? w'_2 (Go.Addr.add (Go.Addr.mk g (0 : Nat) Option.none) (0 : Nat)) = Option.some (Go.Value.int Go.IntKind.u8 x) ∧ ∃ (x_58 : Int), Go.World.cell?
 w'_2 (Go.Addr.add (Go.Addr.mk g (0 : Nat) Option.none) (1 : Nat)) = Option.some (Go.Value.int Go.IntKind.i64 x_58) ∧ ∃ (x_59 : Int), Go.World.cell? w'_2 (Go.Addr.add (Go.Addr.mk g (0 : Nat)
 Option.none) (2 : Nat)) = Option.some (Go.Value.int Go.IntKind.i64 x_59) ∧ ∃ (x_60 : Int), Go.World.cell? w'_2 (Go.Addr.add (Go.Addr.mk g (0 : Nat) Option.none) (3 : Nat)) = Option.some (Go.Value.int
 Go.IntKind.i64 x_60) ∧ ∃ (x_61 : Int), Go.World.cell? w'_2 (Go.Addr.add (Go.Addr.mk g (0 : Nat) Option.none) (4 : Nat)) = Option.some (Go.Value.int Go.IntKind.i64 x_61) ∧ ∀ (g : Nat) (w' : Go.World),
 Go.Sx.Fresh w'_2 g w' [Go.Value.int Go.IntKind.i64 (Go.IntKind.wrap Go.IntKind.i64 x), Go.Value.int Go.IntKind.i64 x_58, Go.Value.int Go.IntKind.i64 x_59, Go.Value.int Go.IntKind.i64 x_60, Go.Value.int
 Go.IntKind.i64 x_61] (3 : Nat) → Go.Sx.CallsV Go.Proofs.Tryd.prog (28 : Nat) #[Go.Value.pointer (Option.some (Go.Addr.mk g_1 (0 : Nat) Option.none)), Go.Value.slice (Option.some (Go.Addr.mk g (0 : Nat)
 Option.none)) (5 : Nat) (5 : Nat)] w' fun (v : Go.Value) (w' : Go.World) => v = Go.Value.tuple #[] ∧ I (Go.IntKind.wrap Go.IntKind.i64 (x_53 + (1 : Int))) w' ∧ μ (Go.IntKind.wrap Go.IntKind.i64 (x_53 +
 (1 : Int))) w' < μ x_53 w else ∃ (a : Go.Addr), Option.some (Go.Addr.mk g_1 (0 : Nat) Option.none) = Option.some a ∧ ∃ (x : Option Go.Addr), ∃ (x_54 : Nat), ∃ (x_55 : Nat), Go.World.cell? w
 (Go.Addr.add a (0 : Nat)) = Option.some (Go.Value.slice x x_54 x_55) ∧ bif Decidable.decide ((1048576 : Int) < (↑x_54 : Int)) then K (Go.Value.tuple #[Go.Value.slice Option.none (0 : Nat) (0 : Nat),
 Go.Value.int Go.IntKind.i64 (3 : Int)]) w else ∃ (a : Go.Addr), Option.some (Go.Addr.mk g_1 (0 : Nat) Option.none) = Option.some a ∧ ∃ (x : Option Go.Addr), ∃ (x_56 : Nat), ∃ (x_57 : Nat),
 Go.World.cell? w (Go.Addr.add a (0 : Nat)) = Option.some (Go.Value.slice x x_56 x_57) ∧ K (Go.Value.tuple #[Go.Value.slice x x_56 x_57, Go.Value.int Go.IntKind.i64 (0 : Int)]) w
theorem code_Bytes.eq (p0 : Int) (p1 : Int) (p2 : Int) (p3_A : Option Addr) (p3_n : Nat) (p3_c : Nat) (p4_A : Option Addr) (p4_n : Nat) (p4_c : Nat) (p5_A : Option Addr) (p5_n : Nat) (p5_c : Nat) (p6_A : Option Addr) (p6_n : Nat) (p6_c : Nat) (p7_A : Option Addr) (p7_n : Nat) (p7_c : Nat) (p8_A : Option Addr) (p8_n : Nat) (p8_c : Nat) (w : World) (K : Value → World → Prop) : code_Bytes.W p0 p1 p2 p3_A p3_n p3_c p4_A p4_n p4_c p5_A p5_n p5_c p6_A p6_n p6_c p7_A p7_n p7_c p8_A p8_n p8_c w K = fnW Tryd.prog Tryd.f16 (.named (.seq .auto (.seq .auto (.seq .auto (.seq .auto (.seq (.seq .auto (.block (.loop [(42, .one (.int .i64))] .auto))) (.seq .auto (.seq (.seq .auto (.block (.loop [(59, .one (.int .i64))] .auto))) (.seq .auto (.seq (.seq .auto (.block (.loop [(94, .one (.int .i64))] .auto))) (.seq .auto (.seq (.seq .auto (.block (.loop [(119, .one (.int .i64))] .auto))) (.seq .auto (.seq (.seq .auto (.block (.loop [(153, .one (.int .i64))] .auto))) (.seq .auto (.seq (.seq .auto (.block (.loop [(176, .one (.int .i64))] .auto))) .auto)))))))))))))))) [.agg #[.int .i64 p0, .int .i64 p1, .int .i64 p2, .slice p3_A p3_n p3_c, .slice p4_A p4_n p4_c, .slice p5_A p5_n p5_c, .slice p6_A p6_n p6_c, .slice p7_A p7_n p7_c, .slice p8_A p8_n p8_c]] w K := by kernel_rfl
theorem code_Bytes.calls (ok : Okay Tryd.prog) {p0 : Int} {p1 : Int} {p2 : Int} {p3_A : Option Addr} {p3_n : Nat} {p3_c : Nat} {p4_A : Option Addr} {p4_n : Nat} {p4_c : Nat} {p5_A : Option Addr} {p5_n : Nat} {p5_c : Nat} {p6_A : Option Addr} {p6_n : Nat} {p6_c : Nat} {p7_A : Option Addr} {p7_n : Nat} {p7_c : Nat} {p8_A : Option Addr} {p8_n : Nat} {p8_c : Nat} {w : World} {K : Value → World → Prop} (h : code_Bytes.W p0 p1 p2 p3_A p3_n p3_c p4_A p4_n p4_c p5_A p5_n p5_c p6_A p6_n p6_c p7_A p7_n p7_c p8_A p8_n p8_c w K) : CallsV Tryd.prog 16 #[.agg #[.int .i64 p0, .int .i64 p1, .int .i64 p2, .slice p3_A p3_n p3_c, .slice p4_A p4_n p4_c, .slice p5_A p5_n p5_c, .slice p6_A p6_n p6_c, .slice p7_A p7_n p7_c, .slice p8_A p8_n p8_c]] w K :=
  fnW_calls ok Tryd.func16 (an := (.named (.seq .auto (.seq .auto (.seq .auto (.seq .auto (.seq (.seq .auto (.block (.loop [(42, .one (.int .i64))] .auto))) (.seq .auto (.seq (.seq .auto (.block (.loop [(59, .one (.int .i64))] .auto))) (.seq .auto (.seq (.seq .auto (.block (.loop [(94, .one (.int .i64))] .auto))) (.seq .auto (.seq (.seq .auto (.block (.loop [(119, .one (.int .i64))] .auto))) (.seq .auto (.seq (.seq .auto (.block (.loop [(153, .one (.int .i64))] .auto))) (.seq .auto (.seq (.seq .auto (.block (.loop [(176, .one (.int .i64))] .auto))) .auto))))))))))))))))) (args := [.agg #[.int .i64 p0, .int .i64 p1, .int .i64 p2, .slice p3_A p3_n p3_c, .slice p4_A p4_n p4_c, .slice p5_A p5_n p5_c, .slice p6_A p6_n p6_c, .slice p7_A p7_n p7_c, .slice p8_A p8_n p8_c]]) (by rw [← code_Bytes.eq]; exact h)
noncomputable def cardindexlaw15_CodeApart.W : Int → Int → Int → Option Addr → Nat → Nat → Option Addr → Nat → Nat → Option Addr → Nat → Nat → Option Addr → Nat → Nat → Option Addr → Nat → Nat → Option
 Addr → Nat → Nat → Int → Int → Int → Option Addr → Nat → Nat → Option Addr → Nat → Nat → Option Addr → Nat → Nat → Option Addr → Nat → Nat → Option Addr → Nat → Nat → Option Addr → Nat → Nat → World →
 (Value → World → Prop) → Prop := fun (p0 p1 p2 : Int) (p3_A : Option Go.Addr) (p3_n p3_c : Nat) (p4_A : Option Go.Addr) (p4_n p4_c : Nat) (p5_A : Option Go.Addr) (p5_n p5_c : Nat) (p6_A : Option
 Go.Addr) (p6_n p6_c : Nat) (p7_A : Option Go.Addr) (p7_n p7_c : Nat) (p8_A : Option Go.Addr) (p8_n p8_c : Nat) (q0 q1 q2 : Int) (q3_A : Option Go.Addr) (q3_n q3_c : Nat) (q4_A : Option Go.Addr) (q4_n
 q4_c : Nat) (q5_A : Option Go.Addr) (q5_n q5_c : Nat) (q6_A : Option Go.Addr) (q6_n q6_c : Nat) (q7_A : Option Go.Addr) (q7_n q7_c : Nat) (q8_A : Option Go.Addr) (q8_n q8_c : Nat) (w : Go.World) (K :
 Go.Value → Go.World → Prop) => ∀ (g : Nat) (w' : Go.World), Go.Sx.Fresh w g w' [Go.Value.int Go.IntKind.i64 p0, Go.Value.int Go.IntKind.i64 p1, Go.Value.int Go.IntKind.i64 p2, Go.Value.slice p3_A p3_n
 p3_c, Go.Value.slice p4_A p4_n p4_c, Go.Value.slice p5_A p5_n p5_c, Go.Value.slice p6_A p6_n p6_c, Go.Value.slice p7_A p7_n p7_c, Go.Value.slice p8_A p8_n p8_c] (29 : Nat) → ∀ (g_1 : Nat) (w'_1 :
 Go.World), Go.Sx.Fresh w' g_1 w'_1 [Go.Value.int Go.IntKind.i64 q0, Go.Value.int Go.IntKind.i64 q1, Go.Value.int Go.IntKind.i64 q2, Go.Value.slice q3_A q3_n q3_c, Go.Value.slice q4_A q4_n q4_c,
 Go.Value.slice q5_A q5_n q5_c, Go.Value.slice q6_A q6_n q6_c, Go.Value.slice q7_A q7_n q7_c, Go.Value.slice q8_A q8_n q8_c] (29 : Nat) → ∃ (x : Int), Go.World.cell? w'_1 (Go.Addr.add (Go.Addr.mk g (0 :
 Nat) Option.none) (0 : Nat)) = Option.some (Go.Value.int Go.IntKind.i64 x) ∧ ∃ (x_1 : Int), Go.World.cell? w'_1 (Go.Addr.add (Go.Addr.mk g (0 : Nat) Option.none) (1 : Nat)) = Option.some (Go.Value.int
 Go.IntKind.i64 x_1) ∧ ∃ (x_2 : Int), Go.World.cell? w'_1 (Go.Addr.add (Go.Addr.mk g (0 : Nat) Option.none) (2 : Nat)) = Option.some (Go.Value.int Go.IntKind.i64 x_2) ∧ ∃ (x_3 : Option Go.Addr), ∃ (x_4
 : Nat), ∃ (x_5 : Nat), Go.World.cell? w'_1 (Go.Addr.add (Go.Addr.mk g (0 : Nat) Option.none) (3 : Nat)) = Option.some (Go.Value.slice x_3 x_4 x_5) ∧ ∃ (x_6 : Option Go.Addr), ∃ (x_7 : Nat), ∃ (x_8 :
 Nat), Go.World.cell? w'_1 (Go.Addr.add (Go.Addr.mk g (0 : Nat) Option.none) (4 : Nat)) = Option.some (Go.Value.slice x_6 x_7 x_8) ∧ ∃ (x_9 : Option Go.Addr), ∃ (x_10 : Nat), ∃ (x_11 : Nat),
 Go.World.cell? w'_1 (Go.Addr.add (Go.Addr.mk g (0 : Nat) Option.none) (5 : Nat)) = Option.some (Go.Value.slice x_9 x_10 x_11) ∧ ∃ (x_12 : Option Go.Addr), ∃ (x_13 : Nat), ∃ (x_14 : Nat), Go.World.cell?
 w'_1 (Go.Addr.add (Go.Addr.mk g (0 : Nat) Option.none) (6 : Nat)) = Option.some (Go.Value.slice x_12 x_13 x_14) ∧ ∃ (x_15 : Option Go.Addr), ∃ (x_16 : Nat), ∃ (x_17 : Nat), Go.World.cell? w'_1
 (Go.Addr.add (Go.Addr.mk g (0 : Nat) Option.none) (7 : Nat)) = Option.some (Go.Value.slice x_15 x_16 x_17) ∧ ∃ (x_18 : Option Go.Addr), ∃ (x_19 : Nat), ∃ (x_20 : Nat), Go.World.cell? w'_1 (Go.Addr.add
 (Go.Addr.mk g (0 : Nat) Option.none) (8 : Nat)) = Option.some (Go.Value.slice x_18 x_19 x_20) ∧ Go.Sx.CallsV Go.Proofs.Tryd.prog (7 : Nat) #[Go.Value.agg #[Go.Value.int Go.IntKind.i64 x, Go.Value.int
 Go.IntKind.i64 x_1, Go.Value.int Go.IntKind.i64 x_2, Go.Value.slice x_3 x_4 x_5, Go.Value.slice x_6 x_7 x_8, Go.Value.slice x_9 x_10 x_11, Go.Value.slice x_12 x_13 x_14, Go.Value.slice x_15 x_16 x_17,
 Go.Value.slice x_18 x_19 x_20]] w'_1 fun (v : Go.Value) (w' : Go.World) => ∃ (x : Bool), v = Go.Value.bool x ∧ bif x then Go.Sx.CallsV Go.Proofs.Tryd.prog (9 : Nat) #[] w' fun (v : Go.Value) (w' :
 Go.World) => ∃ (x : Bool), v = Go.Value.bool x ∧ K (Go.Value.bool x) w' else ∃ (x : Int), Go.World.cell? w' (Go.Addr.add (Go.Addr.mk g_1 (0 : Nat) Option.none) (0 : Nat)) = Option.some (Go.Value.int
 Go.IntKind.i64 x) ∧ ∃ (x_21 : Int), Go.World.cell? w' (Go.Addr.add (Go.Addr.mk g_1 (0 : Nat) Option.none) (1 : Nat)) = Option.some (Go.Value.int Go.IntKind.i64 x_21) ∧ ∃ (x_22 : Int), Go.World.cell? w'
 (Go.Addr.add (Go.Addr.mk g_1 (0 : Nat) Option.none) (2 : Nat)) = Option.some (Go.Value.int Go.IntKind.i64 x_22) ∧ ∃ (x_23 : Option Go.Addr), ∃ (x_24 : Nat), ∃ (x_25 : Nat), Go.World.cell? w'
 (Go.Addr.add (Go.Addr.mk g_1 (0 : Nat) Option.none) (3 : Nat)) = Option.some (Go.Value.slice x_23 x_24 x_25) ∧ ∃ (x_26 : Option Go.Addr), ∃ (x_27 : Nat), ∃ (x_28 : Nat), Go.World.cell? w' (Go.Addr.add
 (Go.Addr.mk g_1 (0 : Nat) Option.none) (4 : Nat)) = Option.some (Go.Value.slice x_26 x_27 x_28) ∧ ∃ (x_29 : Option Go.Addr), ∃ (x_30 : Nat), ∃ (x_31 : Nat), Go.World.cell? w' (Go.Addr.add (Go.Addr.mk
 g_1 (0 : Nat) Option.none) (5 : Nat)) = Option.some (Go.Value.slice x_29 x_30 x_31) ∧ ∃ (x_32 : Option Go.Addr), ∃ (x_33 : Nat), ∃ (x_34 : Nat), Go.World.cell? w' (Go.Addr.add (Go.Addr.mk g_1 (0 : Nat)
 Option.none) (6 : Nat)) = Option.some (Go.Value.slice x_32 x_33 x_34) ∧ ∃ (x_35 : Option Go.Addr), ∃ (x_36 : Nat), ∃ (x_37 : Nat), Go.World.cell? w' (Go.Addr.add (Go.Addr.mk g_1 (0 : Nat) Option.none)
 (7 : Nat)) = Option.some (Go.Value.slice x_35 x_36 x_37) ∧ ∃ (x_38 : Option Go.Addr), ∃ (x_39 : Nat), ∃ (x_40 : Nat), Go.World.cell? w' (Go.Addr.add (Go.Addr.mk g_1 (0 : Nat) Option.none) (8 : Nat)) =
 Option.some (Go.Value.slice x_38 x_39 x_40) ∧ Go.Sx.CallsV Go.Proofs.Tryd.prog (7 : Nat) #[Go.Value.agg #[Go.Value.int Go.IntKind.i64 x, Go.Value.int Go.IntKind.i64 x_21, Go.Value.int Go.IntKind.i64
 x_22, Go.Value.slice x_23 x_24 x_25, Go.Value.slice x_26 x_27 x_28, Go.Value.slice x_29 x_30 x_31, Go.Value.slice x_32 x_33 x_34, Go.Value.slice x_35 x_36 x_37, Go.Value.slice x_38 x_39 x_40]] w' fun
 (v : Go.Value) (w' : Go.World) => ∃ (x : Bool), v = Go.Value.bool x ∧ bif x then Go.Sx.CallsV Go.Proofs.Tryd.prog (9 : Nat) #[] w' fun (v : Go.Value) (w' : Go.World) => ∃ (x : Bool), v = Go.Value.bool
 x ∧ K (Go.Value.bool x) w' else ∃ (x : Int), Go.World.cell? w' (Go.Addr.add (Go.Addr.mk g (0 : Nat) Option.none) (0 : Nat)) = Option.some (Go.Value.int Go.IntKind.i64 x) ∧ ∃ (x_41 : Int),
 Go.World.cell? w' (Go.Addr.add (Go.Addr.mk g (0 : Nat) Option.none) (1 : Nat)) = Option.some (Go.Value.int Go.IntKind.i64 x_41) ∧ ∃ (x_42 : Int), Go.World.cell? w' (Go.Addr.add (Go.Addr.mk g (0 : Nat)
 Option.none) (2 : Nat)) = Option.some (Go.Value.int Go.IntKind.i64 x_42) ∧ ∃ (x_43 : Option Go.Addr), ∃ (x_44 : Nat), ∃ (x_45 : Nat), Go.World.cell? w' (Go.Addr.add (Go.Addr.mk g (0 : Nat) Option.none)
 (3 : Nat)) = Option.some (Go.Value.slice x_43 x_44 x_45) ∧ ∃ (x_46 : Option Go.Addr), ∃ (x_47 : Nat), ∃ (x_48 : Nat), Go.World.cell? w' (Go.Addr.add (Go.Addr.mk g (0 : Nat) Option.none) (4 : Nat)) =
 Option.some (Go.Value.slice x_46 x_47 x_48) ∧ ∃ (x_49 : Option Go.Addr), ∃ (x_50 : Nat), ∃ (x_51 : Nat), Go.World.cell? w' (Go.Addr.add (Go.Addr.mk g (0 : Nat) Option.none) (5 : Nat)) = Option.some
 (Go.Value.slice x_49 x_50 x_51) ∧ ∃ (x_52 : Option Go.Addr), ∃ (x_53 : Nat), ∃ (x_54 : Nat), Go.World.cell? w' (Go.Addr.add (Go.Addr.mk g (0 : Nat) Option.none) (6 : Nat)) = Option.some (Go.Value.slice
 x_52 x_53 x_54) ∧ ∃ (x_55 : Option Go.Addr), ∃ (x_56 : Nat), ∃ (x_57 : Nat), Go.World.cell? w' (Go.Addr.add (Go.Addr.mk g (0 : Nat) Option.none) (7 : Nat)) = Option.some (Go.Value.slice x_55 x_56 x_57)
 ∧ ∃ (x_58 : Option Go.Addr), ∃ (x_59 : Nat), ∃ (x_60 : Nat), Go.World.cell? w' (Go.Addr.add (Go.Addr.mk g (0 : Nat) Option.none) (8 : Nat)) = Option.some (Go.Value.slice x_58 x_59 x_60) ∧ Go.Sx.CallsV
 Go.Proofs.Tryd.prog (16 : Nat) #[Go.Value.agg #[Go.Value.int Go.IntKind.i64 x, Go.Value.int Go.IntKind.i64 x_41, Go.Value.int Go.IntKind.i64 x_42, Go.Value.slice x_43 x_44 x_45, Go.Value.slice x_46
 x_47 x_48, Go.Value.slice x_49 x_50 x_51, Go.Value.slice x_52 x_53 x_54, Go.Value.slice x_55 x_56 x_57, Go.Value.slice x_58 x_59 x_60]] w' fun (v : Go.Value) (w' : Go.World) => ∃ (x : Option Go.Addr),
 ∃ (x_61 : Nat), ∃ (x_62 : Nat), ∃ (x_63 : Int), v = Go.Value.tuple #[Go.Value.slice x x_61 x_62, Go.Value.int Go.IntKind.i64 x_63] ∧ ∃ (x_64 : Int), Go.World.cell? w' (Go.Addr.add (Go.Addr.mk g_1 (0 :
 Nat) Option.none) (0 : Nat)) = Option.some (Go.Value.int Go.IntKind.i64 x_64) ∧ ∃ (x_65 : Int), Go.World.cell? w' (Go.Addr.add (Go.Addr.mk g_1 (0 : Nat) Option.none) (1 : Nat)) = Option.some
 (Go.Value.int Go.IntKind.i64 x_65) ∧ ∃ (x_66 : Int), Go.World.cell? w' (Go.Addr.add (Go.Addr.mk g_1 (0 : Nat) Option.none) (2 : Nat)) = Option.some (Go.Value.int Go.IntKind.i64 x_66) ∧ ∃ (x_67 : Option
 Go.Addr), ∃ (x_68 : Nat), ∃ (x_69 : Nat), Go.World.cell? w' (Go.Addr.add (Go.Addr.mk g_1 (0 : Nat) Option.none) (3 : Nat)) = Option.some (Go.Value.slice x_67 x_68 x_69) ∧ ∃ (x_70 : Option Go.Addr), ∃
 (x_71 : Nat), ∃ (x_72 : Nat), Go.World.cell? w' (Go.Addr.add (Go.Addr.mk g_1 (0 : Nat) Option.none) (4 : Nat)) = Option.some (Go.Value.slice x_70 x_71 x_72) ∧ ∃ (x_73 : Option Go.Addr), ∃ (x_74 : Nat),
 ∃ (x_75 : Nat), Go.World.cell? w' (Go.Addr.add (Go.Addr.mk g_1 (0 : Nat) Option.none) (5 : Nat)) = Option.some (Go.Value.slice x_73 x_74 x_75) ∧ ∃ (x_76 : Option Go.Addr), ∃ (x_77 : Nat), ∃ (x_78 :
 Nat), Go.World.cell? w' (Go.Addr.add (Go.Addr.mk g_1 (0 : Nat) Option.none) (6 : Nat)) = Option.some (Go.Value.slice x_76 x_77 x_78) ∧ ∃ (x_79 : Option Go.Addr), ∃ (x_80 : Nat), ∃ (x_81 : Nat),
 Go.World.cell? w' (Go.Addr.add (Go.Addr.mk g_1 (0 : Nat) Option.none) (7 : Nat)) = Option.some (Go.Value.slice x_79 x_80 x_81) ∧ ∃ (x_82 : Option Go.Addr), ∃ (x_83 : Nat), ∃ (x_84 : Nat),
 Go.World.cell? w' (Go.Addr.add (Go.Addr.mk g_1 (0 : Nat) Option.none) (8 : Nat)) = Option.some (Go.Value.slice x_82 x_83 x_84) ∧ Go.Sx.CallsV Go.Proofs.Tryd.prog (16 : Nat) #[Go.Value.agg
 #[Go.Value.int Go.IntKind.i64 x_64, Go.Value.int Go.IntKind.i64 x_65, Go.Value.int Go.IntKind.i64 x_66, Go.Value.slice x_67 x_68 x_69, Go.Value.slice x_70 x_71 x_72, Go.Value.slice x_73 x_74 x_75,
 Go.Value.slice x_76 x_77 x_78, Go.Value.slice x_79 x_80 x_81, Go.Value.slice x_82 x_83 x_84]] w' fun (v : Go.Value) (w' : Go.World) => ∃ (x_85 : Option Go.Addr), ∃ (x_86 : Nat), ∃ (x_87 : Nat), ∃ (x_88
 : Int), v = Go.Value.tuple #[Go.Value.slice x_85 x_86 x_87, Go.Value.int Go.IntKind.i64 x_88] ∧ bif !Decidable.decide (x_63 = (0 : Int)) then Go.Sx.CallsV Go.Proofs.Tryd.prog (9 : Nat) #[] w' fun (v :
 Go.Value) (w' : Go.World) => ∃ (x : Bool), v = Go.Value.bool x ∧ K (Go.Value.bool x) w' else bif !Decidable.decide (x_88 = (0 : Int)) then Go.Sx.CallsV Go.Proofs.Tryd.prog (9 : Nat) #[] w' fun (v :
 Go.Value) (w' : Go.World) => ∃ (x : Bool), v = Go.Value.bool x ∧ K (Go.Value.bool x) w' else ∃ (S : Go.World → Prop), S (Go.World.drew w') ∧ ∃ (r : ByteArray), (∀ (u : Go.World), S u → Go.Sx.RunsTo
 Go.Proofs.Tryd.prog (Go.convert (45 : Nat) (9 : Nat) (Go.Value.slice x x_61 x_62)) u (Go.Value.string r) u) ∧ ∃ (r_1 : ByteArray), (∀ (u : Go.World), S u → Go.Sx.RunsTo Go.Proofs.Tryd.prog (Go.convert
 (45 : Nat) (9 : Nat) (Go.Value.slice x_85 x_86 x_87)) u (Go.Value.string r_1) u) ∧ ∃ (x : Int), (∀ (u : Go.World), S u → Go.World.cell? u (Go.Addr.add (Go.Addr.mk g (0 : Nat) Option.none) (0 : Nat)) =
 Option.some (Go.Value.int Go.IntKind.i64 x)) ∧ ∃ (x_89 : Int), (∀ (u : Go.World), S u → Go.World.cell? u (Go.Addr.add (Go.Addr.mk g (0 : Nat) Option.none) (1 : Nat)) = Option.some (Go.Value.int
 Go.IntKind.i64 x_89)) ∧ ∃ (x_90 : Int), (∀ (u : Go.World), S u → Go.World.cell? u (Go.Addr.add (Go.Addr.mk g (0 : Nat) Option.none) (2 : Nat)) = Option.some (Go.Value.int Go.IntKind.i64 x_90)) ∧ ∃
 (x_91 : Option Go.Addr), ∃ (x_92 : Nat), ∃ (x_93 : Nat), (∀ (u : Go.World), S u → Go.World.cell? u (Go.Addr.add (Go.Addr.mk g (0 : Nat) Option.none) (3 : Nat)) = Option.some (Go.Value.slice x_91 x_92
 x_93)) ∧ ∃ (x_94 : Option Go.Addr), ∃ (x_95 : Nat), ∃ (x_96 : Nat), (∀ (u : Go.World), S u → Go.World.cell? u (Go.Addr.add (Go.Addr.mk g (0 : Nat) Option.none) (4 : Nat)) = Option.some (Go.Value.slice
 x_94 x_95 x_96)) ∧ ∃ (x_97 : Option Go.Addr), ∃ (x_98 : Nat), ∃ (x_99 : Nat), (∀ (u : Go.World), S u → Go.World.cell? u (Go.Addr.add (Go.Addr.mk g (0 : Nat) Option.none) (5 : Nat)) = Option.some
 (Go.Value.slice x_97 x_98 x_99)) ∧ ∃ (x_100 : Option Go.Addr), ∃ (x_101 : Nat), ∃ (x_102 : Nat), (∀ (u : Go.World), S u → Go.World.cell? u (Go.Addr.add (Go.Addr.mk g (0 : Nat) Option.none) (6 : Nat)) =
 Option.some (Go.Value.slice x_100 x_101 x_102)) ∧ ∃ (x_103 : Option Go.Addr), ∃ (x_104 : Nat), ∃ (x_105 : Nat), (∀ (u : Go.World), S u → Go.World.cell? u (Go.Addr.add (Go.Addr.mk g (0 : Nat)
 Option.none) (7 : Nat)) = Option.some (Go.Value.slice x_103 x_104 x_105)) ∧ ∃ (x_106 : Option Go.Addr), ∃ (x_107 : Nat), ∃ (x_108 : Nat), (∀ (u : Go.World), S u → Go.World.cell? u (Go.Addr.add
 (Go.Addr.mk g (0 : Nat) Option.none) (8 : Nat)) = Option.some (Go.Value.slice x_106 x_107 x_108)) ∧ ∃ (x_109 : Int), (∀ (u : Go.World), S u → Go.World.cell? u (Go.Addr.add (Go.Addr.mk g_1 (0 : Nat)
 Option.none) (0 : Nat)) = Option.some (Go.Value.int Go.IntKind.i64 x_109)) ∧ ∃ (x_110 : Int), (∀ (u : Go.World), S u → Go.World.cell? u (Go.Addr.add (Go.Addr.mk g_1 (0 : Nat) Option.none) (1 : Nat)) =
 Option.some (Go.Value.int Go.IntKind.i64 x_110)) ∧ ∃ (x_111 : Int), (∀ (u : Go.World), S u → Go.World.cell? u (Go.Addr.add (Go.Addr.mk g_1 (0 : Nat) Option.none) (2 : Nat)) = Option.some (Go.Value.int
 Go.IntKind.i64 x_111)) ∧ ∃ (x_112 : Option Go.Addr), ∃ (x_113 : Nat), ∃ (x_114 : Nat), (∀ (u : Go.World), S u → Go.World.cell? u (Go.Addr.add (Go.Addr.mk g_1 (0 : Nat) Option.none) (3 : Nat)) =
 Option.some (Go.Value.slice x_112 x_113 x_114)) ∧ ∃ (x_115 : Option Go.Addr), ∃ (x_116 : Nat), ∃ (x_117 : Nat), (∀ (u : Go.World), S u → Go.World.cell? u (Go.Addr.add (Go.Addr.mk g_1 (0 : Nat)
 Option.none) (4 : Nat)) = Option.some (Go.Value.slice x_115 x_116 x_117)) ∧ ∃ (x_118 : Option Go.Addr), ∃ (x_119 : Nat), ∃ (x_120 : Nat), (∀ (u : Go.World), S u → Go.World.cell? u (Go.Addr.add
 (Go.Addr.mk g_1 (0 : Nat) Option.none) (5 : Nat)) = Option.some (Go.Value.slice x_118 x_119 x_120)) ∧ ∃ (x_121 : Option Go.Addr), ∃ (x_122 : Nat), ∃ (x_123 : Nat), (∀ (u : Go.World), S u →
 Go.World.cell? u (Go.Addr.add (Go.Addr.mk g_1 (0 : Nat) Option.none) (6 : Nat)) = Option.some (Go.Value.slice x_121 x_122 x_123)) ∧ ∃ (x_124 : Option Go.Addr), ∃ (x_125 : Nat), ∃ (x_126 : Nat), (∀ (u :
 Go.World), S u → Go.World.cell? u (Go.Addr.add (Go.Addr.mk g_1 (0 : Nat) Option.none) (7 : Nat)) = Option.some (Go.Value.slice x_124 x_125 x_126)) ∧ ∃ (x_127 : Option Go.Addr), ∃ (x_128 : Nat), ∃
 (x_129 : Nat), (∀ (u : Go.World), S u → Go.World.cell? u (Go.Addr.add (Go.Addr.mk g_1 (0 : Nat) Option.none) (8 : Nat)) = Option.some (Go.Value.slice x_127 x_128 x_129)) ∧ Go.Sx.CallsV
 Go.Proofs.Tryd.prog (17 : Nat) #[Go.Value.agg #[Go.Value.int Go.IntKind.i64 x, Go.Value.int Go.IntKind.i64 x_89, Go.Value.int Go.IntKind.i64 x_90, Go.Value.slice x_91 x_92 x_93, Go.Value.slice x_94
 x_95 x_96, Go.Value.slice x_97 x_98 x_99, Go.Value.slice x_100 x_101 x_102, Go.Value.slice x_103 x_104 x_105, Go.Value.slice x_106 x_107 x_108], Go.Value.agg #[Go.Value.int Go.IntKind.i64 x_109,
 Go.Value.int Go.IntKind.i64 x_110, Go.Value.int Go.IntKind.i64 x_111, Go.Value.slice x_112 x_113 x_114, Go.Value.slice x_115 x_116 x_117, Go.Value.slice x_118 x_119 x_120, Go.Value.slice x_121 x_122
 x_123, Go.Value.slice x_124 x_125 x_126, Go.Value.slice x_127 x_128 x_129]] (Go.World.drew w') fun (v : Go.Value) (w' : Go.World) => ∃ (x : Bool), v = Go.Value.bool x ∧ S w' ∧ bif Decidable.decide
 ((ByteArray.toList r == ByteArray.toList r_1) = x) then Go.Sx.CallsV Go.Proofs.Tryd.prog (9 : Nat) #[] w' fun (v : Go.Value) (w' : Go.World) => ∃ (x : Bool), v = Go.Value.bool x ∧ S w' ∧ K
 (Go.Value.bool x) w' else K (Go.Value.bool Bool.false) w'
theorem cardindexlaw15_CodeApart.eq (p0 : Int) (p1 : Int) (p2 : Int) (p3_A : Option Addr) (p3_n : Nat) (p3_c : Nat) (p4_A : Option Addr) (p4_n : Nat) (p4_c : Nat) (p5_A : Option Addr) (p5_n : Nat) (p5_c : Nat) (p6_A : Option Addr) (p6_n : Nat) (p6_c : Nat) (p7_A : Option Addr) (p7_n : Nat) (p7_c : Nat) (p8_A : Option Addr) (p8_n : Nat) (p8_c : Nat) (q0 : Int) (q1 : Int) (q2 : Int) (q3_A : Option Addr) (q3_n : Nat) (q3_c : Nat) (q4_A : Option Addr) (q4_n : Nat) (q4_c : Nat) (q5_A : Option Addr) (q5_n : Nat) (q5_c : Nat) (q6_A : Option Addr) (q6_n : Nat) (q6_c : Nat) (q7_A : Option Addr) (q7_n : Nat) (q7_c : Nat) (q8_A : Option Addr) (q8_n : Nat) (q8_c : Nat) (w : World) (K : Value → World → Prop) : cardindexlaw15_CodeApart.W p0 p1 p2 p3_A p3_n p3_c p4_A p4_n p4_c p5_A p5_n p5_c p6_A p6_n p6_c p7_A p7_n p7_c p8_A p8_n p8_c q0 q1 q2 q3_A q3_n q3_c q4_A q4_n q4_c q5_A q5_n q5_c q6_A q6_n q6_c q7_A q7_n q7_c q8_A q8_n q8_c w K = fnW Tryd.prog Tryd.f6 (.named .auto) [.agg #[.int .i64 p0, .int .i64 p1, .int .i64 p2, .slice p3_A p3_n p3_c, .slice p4_A p4_n p4_c, .slice p5_A p5_n p5_c, .slice p6_A p6_n p6_c, .slice p7_A p7_n p7_c, .slice p8_A p8_n p8_c], .agg #[.int .i64 q0, .int .i64 q1, .int .i64 q2, .slice q3_A q3_n q3_c, .slice q4_A q4_n q4_c, .slice q5_A q5_n q5_c, .slice q6_A q6_n q6_c, .slice q7_A q7_n q7_c, .slice q8_A q8_n q8_c]] w K := by kernel_rfl
theorem cardindexlaw15_CodeApart.calls (ok : Okay Tryd.prog) {p0 : Int} {p1 : Int} {p2 : Int} {p3_A : Option Addr} {p3_n : Nat} {p3_c : Nat} {p4_A : Option Addr} {p4_n : Nat} {p4_c : Nat} {p5_A : Option Addr} {p5_n : Nat} {p5_c : Nat} {p6_A : Option Addr} {p6_n : Nat} {p6_c : Nat} {p7_A : Option Addr} {p7_n : Nat} {p7_c : Nat} {p8_A : Option Addr} {p8_n : Nat} {p8_c : Nat} {q0 : Int} {q1 : Int} {q2 : Int} {q3_A : Option Addr} {q3_n : Nat} {q3_c : Nat} {q4_A : Option Addr} {q4_n : Nat} {q4_c : Nat} {q5_A : Option Addr} {q5_n : Nat} {q5_c : Nat} {q6_A : Option Addr} {q6_n : Nat} {q6_c : Nat} {q7_A : Option Addr} {q7_n : Nat} {q7_c : Nat} {q8_A : Option Addr} {q8_n : Nat} {q8_c : Nat} {w : World} {K : Value → World → Prop} (h : cardindexlaw15_CodeApart.W p0 p1 p2 p3_A p3_n p3_c p4_A p4_n p4_c p5_A p5_n p5_c p6_A p6_n p6_c p7_A p7_n p7_c p8_A p8_n p8_c q0 q1 q2 q3_A q3_n q3_c q4_A q4_n q4_c q5_A q5_n q5_c q6_A q6_n q6_c q7_A q7_n q7_c q8_A q8_n q8_c w K) : CallsV Tryd.prog 6 #[.agg #[.int .i64 p0, .int .i64 p1, .int .i64 p2, .slice p3_A p3_n p3_c, .slice p4_A p4_n p4_c, .slice p5_A p5_n p5_c, .slice p6_A p6_n p6_c, .slice p7_A p7_n p7_c, .slice p8_A p8_n p8_c], .agg #[.int .i64 q0, .int .i64 q1, .int .i64 q2, .slice q3_A q3_n q3_c, .slice q4_A q4_n q4_c, .slice q5_A q5_n q5_c, .slice q6_A q6_n q6_c, .slice q7_A q7_n q7_c, .slice q8_A q8_n q8_c]] w K :=
  fnW_calls ok Tryd.func6 (an := (.named .auto)) (args := [.agg #[.int .i64 p0, .int .i64 p1, .int .i64 p2, .slice p3_A p3_n p3_c, .slice p4_A p4_n p4_c, .slice p5_A p5_n p5_c, .slice p6_A p6_n p6_c, .slice p7_A p7_n p7_c, .slice p8_A p8_n p8_c], .agg #[.int .i64 q0, .int .i64 q1, .int .i64 q2, .slice q3_A q3_n q3_c, .slice q4_A q4_n q4_c, .slice q5_A q5_n q5_c, .slice q6_A q6_n q6_c, .slice q7_A q7_n q7_c, .slice q8_A q8_n q8_c]]) (by rw [← cardindexlaw15_CodeApart.eq]; exact h)
noncomputable def cardindexlaw15_Same.W : Int → Int → Int → Option Addr → Nat → Nat → Option Addr → Nat → Nat → Option Addr → Nat → Nat → Option Addr → Nat → Nat → Option Addr → Nat → Nat → Option Addr
 → Nat → Nat → Int → Int → Int → Option Addr → Nat → Nat → Option Addr → Nat → Nat → Option Addr → Nat → Nat → Option Addr → Nat → Nat → Option Addr → Nat → Nat → Option Addr → Nat → Nat → World →
 (Value → World → Prop) → Prop := fun (a0 a1 a2 : Int) (a3_A : Option Go.Addr) (a3_n a3_c : Nat) (a4_A : Option Go.Addr) (a4_n a4_c : Nat) (a5_A : Option Go.Addr) (a5_n a5_c : Nat) (a6_A : Option
 Go.Addr) (a6_n a6_c : Nat) (a7_A : Option Go.Addr) (a7_n a7_c : Nat) (a8_A : Option Go.Addr) (a8_n a8_c : Nat) (b0 b1 b2 : Int) (b3_A : Option Go.Addr) (b3_n b3_c : Nat) (b4_A : Option Go.Addr) (b4_n
 b4_c : Nat) (b5_A : Option Go.Addr) (b5_n b5_c : Nat) (b6_A : Option Go.Addr) (b6_n b6_c : Nat) (b7_A : Option Go.Addr) (b7_n b7_c : Nat) (b8_A : Option Go.Addr) (b8_n b8_c : Nat) (w : Go.World) (K :
 Go.Value → Go.World → Prop) => ∀ (g : Nat) (w' : Go.World), Go.Sx.Fresh w g w' [Go.Value.int Go.IntKind.i64 a0, Go.Value.int Go.IntKind.i64 a1, Go.Value.int Go.IntKind.i64 a2, Go.Value.slice a3_A a3_n
 a3_c, Go.Value.slice a4_A a4_n a4_c, Go.Value.slice a5_A a5_n a5_c, Go.Value.slice a6_A a6_n a6_c, Go.Value.slice a7_A a7_n a7_c, Go.Value.slice a8_A a8_n a8_c] (29 : Nat) → ∀ (g_1 : Nat) (w'_1 :
 Go.World), Go.Sx.Fresh w' g_1 w'_1 [Go.Value.int Go.IntKind.i64 b0, Go.Value.int Go.IntKind.i64 b1, Go.Value.int Go.IntKind.i64 b2, Go.Value.slice b3_A b3_n b3_c, Go.Value.slice b4_A b4_n b4_c,
 Go.Value.slice b5_A b5_n b5_c, Go.Value.slice b6_A b6_n b6_c, Go.Value.slice b7_A b7_n b7_c, Go.Value.slice b8_A b8_n b8_c] (29 : Nat) → ∃ (x : Int), Go.World.cell? w'_1 (Go.Addr.add (Go.Addr.mk g (0 :
 Nat) Option.none) (0 : Nat)) = Option.some (Go.Value.int Go.IntKind.i64 x) ∧ ∃ (x_1 : Int), Go.World.cell? w'_1 (Go.Addr.add (Go.Addr.mk g_1 (0 : Nat) Option.none) (0 : Nat)) = Option.some
 (Go.Value.int Go.IntKind.i64 x_1) ∧ bif !Decidable.decide (x = x_1) then K (Go.Value.bool Bool.false) w'_1 else ∃ (x : Int), Go.World.cell? w'_1 (Go.Addr.add (Go.Addr.mk g (0 : Nat) Option.none) (1 :
 Nat)) = Option.some (Go.Value.int Go.IntKind.i64 x) ∧ ∃ (x_2 : Int), Go.World.cell? w'_1 (Go.Addr.add (Go.Addr.mk g_1 (0 : Nat) Option.none) (1 : Nat)) = Option.some (Go.Value.int Go.IntKind.i64 x_2) ∧
 bif !Decidable.decide (x = x_2) then K (Go.Value.bool Bool.false) w'_1 else ∃ (x : Int), Go.World.cell? w'_1 (Go.Addr.add (Go.Addr.mk g (0 : Nat) Option.none) (2 : Nat)) = Option.some (Go.Value.int
 Go.IntKind.i64 x) ∧ ∃ (x_3 : Int), Go.World.cell? w'_1 (Go.Addr.add (Go.Addr.mk g_1 (0 : Nat) Option.none) (2 : Nat)) = Option.some (Go.Value.int Go.IntKind.i64 x_3) ∧ bif !Decidable.decide (x = x_3)
 then K (Go.Value.bool Bool.false) w'_1 else ∃ (x : Option Go.Addr), ∃ (x_4 : Nat), ∃ (x_5 : Nat), Go.World.cell? w'_1 (Go.Addr.add (Go.Addr.mk g (0 : Nat) Option.none) (3 : Nat)) = Option.some
 (Go.Value.slice x x_4 x_5) ∧ ∃ (x_6 : Option Go.Addr), ∃ (x_7 : Nat), ∃ (x_8 : Nat), Go.World.cell? w'_1 (Go.Addr.add (Go.Addr.mk g_1 (0 : Nat) Option.none) (3 : Nat)) = Option.some (Go.Value.slice x_6
 x_7 x_8) ∧ Go.Sx.CallsV Go.Proofs.Tryd.prog (33 : Nat) #[Go.Value.slice x x_4 x_5, Go.Value.slice x_6 x_7 x_8] w'_1 fun (v : Go.Value) (w' : Go.World) => ∃ (x : Bool), v = Go.Value.bool x ∧ bif !x then
 K (Go.Value.bool Bool.false) w' else ∃ (x : Option Go.Addr), ∃ (x_9 : Nat), ∃ (x_10 : Nat), Go.World.cell? w' (Go.Addr.add (Go.Addr.mk g (0 : Nat) Option.none) (4 : Nat)) = Option.some (Go.Value.slice
 x x_9 x_10) ∧ ∃ (x : Option Go.Addr), ∃ (x_11 : Nat), ∃ (x_12 : Nat), Go.World.cell? w' (Go.Addr.add (Go.Addr.mk g_1 (0 : Nat) Option.none) (4 : Nat)) = Option.some (Go.Value.slice x x_11 x_12) ∧ bif
 !Decidable.decide ((↑x_9 : Int) = (↑x_11 : Int)) then K (Go.Value.bool Bool.false) w' else ∃ (x : Option Go.Addr), ∃ (x_13 : Nat), ∃ (x_14 : Nat), Go.World.cell? w' (Go.Addr.add (Go.Addr.mk g (0 : Nat)
 Option.none) (5 : Nat)) = Option.some (Go.Value.slice x x_13 x_14) ∧ ∃ (x : Option Go.Addr), ∃ (x_15 : Nat), ∃ (x_16 : Nat), Go.World.cell? w' (Go.Addr.add (Go.Addr.mk g_1 (0 : Nat) Option.none) (5 :
 Nat)) = Option.some (Go.Value.slice x x_15 x_16) ∧ bif !Decidable.decide ((↑x_13 : Int) = (↑x_15 : Int)) then K (Go.Value.bool Bool.false) w' else ∃ (x : Option Go.Addr), ∃ (x_17 : Nat), ∃ (x_18 :
 Nat), Go.World.cell? w' (Go.Addr.add (Go.Addr.mk g (0 : Nat) Option.none) (6 : Nat)) = Option.some (Go.Value.slice x x_17 x_18) ∧ ∃ (x : Option Go.Addr), ∃ (x_19 : Nat), ∃ (x_20 : Nat), Go.World.cell?
 w' (Go.Addr.add (Go.Addr.mk g_1 (0 : Nat) Option.none) (6 : Nat)) = Option.some (Go.Value.slice x x_19 x_20) ∧ bif !Decidable.decide ((↑x_17 : Int) = (↑x_19 : Int)) then K (Go.Value.bool Bool.false) w'
 else ∃ (x : Option Go.Addr), ∃ (x_21 : Nat), ∃ (x_22 : Nat), Go.World.cell? w' (Go.Addr.add (Go.Addr.mk g (0 : Nat) Option.none) (7 : Nat)) = Option.some (Go.Value.slice x x_21 x_22) ∧ ∃ (x : Option
 Go.Addr), ∃ (x_23 : Nat), ∃ (x_24 : Nat), Go.World.cell? w' (Go.Addr.add (Go.Addr.mk g_1 (0 : Nat) Option.none) (7 : Nat)) = Option.some (Go.Value.slice x x_23 x_24) ∧ bif !Decidable.decide ((↑x_21 :
 Int) = (↑x_23 : Int)) then K (Go.Value.bool Bool.false) w' else ∃ (x : Option Go.Addr), ∃ (x_25 : Nat), ∃ (x_26 : Nat), Go.World.cell? w' (Go.Addr.add (Go.Addr.mk g (0 : Nat) Option.none) (8 : Nat)) =
 Option.some (Go.Value.slice x x_25 x_26) ∧ ∃ (x : Option Go.Addr), ∃ (x_27 : Nat), ∃ (x_28 : Nat), Go.World.cell? w' (Go.Addr.add (Go.Addr.mk g_1 (0 : Nat) Option.none) (8 : Nat)) = Option.some
 (Go.Value.slice x x_27 x_28) ∧ bif !Decidable.decide ((↑x_25 : Int) = (↑x_27 : Int)) then K (Go.Value.bool Bool.false) w' else ∃ (x : Option Go.Addr), ∃ (x_29 : Nat), ∃ (x_30 : Nat), Go.World.cell? w'
 (Go.Addr.add (Go.Addr.mk g (0 : Nat) Option.none) (4 : Nat)) = Option.some (Go.Value.slice x x_29 x_30) ∧ ∃ (I : Int → Go.World → Prop), ∃ (μ : Int → Go.World → Nat), I (0 : Int) w' ∧ ∀ (x : Int) (w :
 Go.World), I x w → bif Decidable.decide (x < (↑x_29 : Int)) then ∃ (S : Go.World → Prop), S (Go.World.drew w) ∧ ∃ (x_31 : Option Go.Addr), ∃ (x_32 : Nat), ∃ (x_33 : Nat), (∀ (u : Go.World), S u →
 Go.World.cell? u (Go.Addr.add (Go.Addr.mk g (0 : Nat) Option.none) (4 : Nat)) = Option.some (Go.Value.slice x_31 x_32 x_33)) ∧ ∃ (ad : Go.Addr), x_31 = Option.some ad ∧ ((0 : Int) ≤ x ∧ x < (↑x_32 :
 Int)) ∧ ∃ (x_34 : Int), (∀ (u : Go.World), S u → Go.World.cell? u (Go.Addr.add (Go.Addr.add ad (Int.toNat x * (3 : Nat))) (0 : Nat)) = Option.some (Go.Value.int Go.IntKind.u8 x_34)) ∧ ∃ (x_35 : Int),
 (∀ (u : Go.World), S u → Go.World.cell? u (Go.Addr.add (Go.Addr.add ad (Int.toNat x * (3 : Nat))) (1 : Nat)) = Option.some (Go.Value.int Go.IntKind.i64 x_35)) ∧ ∃ (x_36 : ByteArray), (∀ (u : Go.World),
 S u → Go.World.cell? u (Go.Addr.add (Go.Addr.add ad (Int.toNat x * (3 : Nat))) (2 : Nat)) = Option.some (Go.Value.string x_36)) ∧ ∃ (x_37 : Option Go.Addr), ∃ (x_38 : Nat), ∃ (x_39 : Nat), (∀ (u :
 Go.World), S u → Go.World.cell? u (Go.Addr.add (Go.Addr.mk g_1 (0 : Nat) Option.none) (4 : Nat)) = Option.some (Go.Value.slice x_37 x_38 x_39)) ∧ ∃ (ad : Go.Addr), x_37 = Option.some ad ∧ ((0 : Int) ≤
 x ∧ x < (↑x_38 : Int)) ∧ ∃ (x_40 : Int), (∀ (u : Go.World), S u → Go.World.cell? u (Go.Addr.add (Go.Addr.add ad (Int.toNat x * (3 : Nat))) (0 : Nat)) = Option.some (Go.Value.int Go.IntKind.u8 x_40)) ∧
 ∃ (x_41 : Int), (∀ (u : Go.World), S u → Go.World.cell? u (Go.Addr.add (Go.Addr.add ad (Int.toNat x * (3 : Nat))) (1 : Nat)) = Option.some (Go.Value.int Go.IntKind.i64 x_41)) ∧ ∃ (x_42 : ByteArray), (∀
 (u : Go.World), S u → Go.World.cell? u (Go.Addr.add (Go.Addr.add ad (Int.toNat x * (3 : Nat))) (2 : Nat)) = Option.some (Go.Value.string x_42)) ∧ bif Go.Program.stoodInHeld Go.Proofs.Tryd.prog (51 :
 Nat) || Go.Program.eqGuardType Go.Proofs.Tryd.prog (Go.Program.depth Go.Proofs.Tryd.prog) (51 : Nat) || List.any (Array.toList #[Go.Field.mk "Kind" (49 : Nat) (0 : Nat) Bool.false "" "" (0 : Nat),
 Go.Field.mk "N" (2 : Nat) (1 : Nat) Bool.false "" "" (8 : Nat), Go.Field.mk "S" (9 : Nat) (2 : Nat) Bool.false "" "" (16 : Nat)]) fun (f : Go.Field) => Go.Field.name f == "_" then False else bif
 !(Decidable.decide (x_34 = x_40) && (Decidable.decide (x_35 = x_41) && (ByteArray.toList x_36 == ByteArray.toList x_42 && Bool.true))) then K (Go.Value.bool Bool.false) (Go.World.drew w) else I
 (Go.IntKind.wrap Go.IntKind.i64 (x + (1 : Int))) (Go.World.drew w) ∧ μ (Go.IntKind.wrap Go.IntKind.i64 (x + (1 : Int))) (Go.World.drew w) < μ x w else ∃ (x : Option Go.Addr), ∃ (x_31 : Nat), ∃ (x_32 :
 Nat), Go.World.cell? w (Go.Addr.add (Go.Addr.mk g (0 : Nat) Option.none) (5 : Nat)) = Option.some (Go.Value.slice x x_31 x_32) ∧ ∃ (I : Int → Go.World → Prop), ∃ (μ : Int → Go.World → Nat), I (0 : Int)
 w ∧ ∀ (x : Int) (w : Go.World), I x w → bif Decidable.decide (x < (↑x_31 : Int)) then ∃ (S : Go.World → Prop), S (Go.World.drew w) ∧ ∃ (x_33 : Option Go.Addr), ∃ (x_34 : Nat), ∃ (x_35 : Nat), (∀ (u :
 Go.World), S u → Go.World.cell? u (Go.Addr.add (Go.Addr.mk g (0 : Nat) Option.none) (5 : Nat)) = Option.some (Go.Value.slice x_33 x_34 x_35)) ∧ ∃ (ad : Go.Addr), x_33 = Option.some ad ∧ ((0 : Int) ≤ x
 ∧ x < (↑x_34 : Int)) ∧ ∃ (x_36 : ByteArray), (∀ (u : Go.World), S u → Go.World.cell? u (Go.Addr.add (Go.Addr.add ad (Int.toNat x * (3 : Nat))) (0 : Nat)) = Option.some (Go.Value.string x_36)) ∧ ∃ (x_37
 : Bool), (∀ (u : Go.World), S u → Go.World.cell? u (Go.Addr.add (Go.Addr.add ad (Int.toNat x * (3 : Nat))) (1 : Nat)) = Option.some (Go.Value.bool x_37)) ∧ ∃ (x_38 : Bool), (∀ (u : Go.World), S u →
 Go.World.cell? u (Go.Addr.add (Go.Addr.add ad (Int.toNat x * (3 : Nat))) (2 : Nat)) = Option.some (Go.Value.bool x_38)) ∧ ∃ (x_39 : Option Go.Addr), ∃ (x_40 : Nat), ∃ (x_41 : Nat), (∀ (u : Go.World), S
 u → Go.World.cell? u (Go.Addr.add (Go.Addr.mk g_1 (0 : Nat) Option.none) (5 : Nat)) = Option.some (Go.Value.slice x_39 x_40 x_41)) ∧ ∃ (ad : Go.Addr), x_39 = Option.some ad ∧ ((0 : Int) ≤ x ∧ x <
 (↑x_40 : Int)) ∧ ∃ (x_42 : ByteArray), (∀ (u : Go.World), S u → Go.World.cell? u (Go.Addr.add (Go.Addr.add ad (Int.toNat x * (3 : Nat))) (0 : Nat)) = Option.some (Go.Value.string x_42)) ∧ ∃ (x_43 :
 Bool), (∀ (u : Go.World), S u → Go.World.cell? u (Go.Addr.add (Go.Addr.add ad (Int.toNat x * (3 : Nat))) (1 : Nat)) = Option.some (Go.Value.bool x_43)) ∧ ∃ (x_44 : Bool), (∀ (u : Go.World), S u →
 Go.World.cell? u (Go.Addr.add (Go.Addr.add ad (Int.toNat x * (3 : Nat))) (2 : Nat)) = Option.some (Go.Value.bool x_44)) ∧ bif Go.Program.stoodInHeld Go.Proofs.Tryd.prog (53 : Nat) ||
 Go.Program.eqGuardType Go.Proofs.Tryd.prog (Go.Program.depth Go.Proofs.Tryd.prog) (53 : Nat) || List.any (Array.toList #[Go.Field.mk "Name" (9 : Nat) (0 : Nat) Bool.false "" "" (0 : Nat), Go.Field.mk
 "Index" (4 : Nat) (1 : Nat) Bool.false "" "" (16 : Nat), Go.Field.mk "Write" (4 : Nat) (2 : Nat) Bool.false "" "" (17 : Nat)]) fun (f : Go.Field) => Go.Field.name f == "_" then False else bif
 !(ByteArray.toList x_36 == ByteArray.toList x_42 && (Decidable.decide (x_37 = x_43) && (Decidable.decide (x_38 = x_44) && Bool.true))) then K (Go.Value.bool Bool.false) (Go.World.drew w) else I
 (Go.IntKind.wrap Go.IntKind.i64 (x + (1 : Int))) (Go.World.drew w) ∧ μ (Go.IntKind.wrap Go.IntKind.i64 (x + (1 : Int))) (Go.World.drew w) < μ x w else ∃ (x : Option Go.Addr), ∃ (x_33 : Nat), ∃ (x_34 :
 Nat), Go.World.cell? w (Go.Addr.add (Go.Addr.mk g (0 : Nat) Option.none) (6 : Nat)) = Option.some (Go.Value.slice x x_33 x_34) ∧ ∃ (I : Int → Go.World → Prop), ∃ (μ : Int → Go.World → Nat), I (0 : Int)
 w ∧ ∀ (x : Int) (w : Go.World), I x w → bif Decidable.decide (x < (↑x_33 : Int)) then ∃ (S : Go.World → Prop), S (Go.World.drew w) ∧ ∃ (x_35 : Option Go.Addr), ∃ (x_36 : Nat), ∃ (x_37 : Nat), (∀ (u :
 Go.World), S u → Go.World.cell? u (Go.Addr.add (Go.Addr.mk g (0 : Nat) Option.none) (6 : Nat)) = Option.some (Go.Value.slice x_35 x_36 x_37)) ∧ ∃ (ad : Go.Addr), x_35 = Option.some ad ∧ ((0 : Int) ≤ x
 ∧ x < (↑x_36 : Int)) ∧ ∃ (x_38 : Option Go.Addr), ∃ (x_39 : Nat), ∃ (x_40 : Nat), (∀ (u : Go.World), S u → Go.World.cell? u (Go.Addr.add (Go.Addr.add ad (Int.toNat x * (3 : Nat))) (0 : Nat)) =
 Option.some (Go.Value.slice x_38 x_39 x_40)) ∧ ∃ (x_41 : Int), (∀ (u : Go.World), S u → Go.World.cell? u (Go.Addr.add (Go.Addr.add ad (Int.toNat x * (3 : Nat))) (1 : Nat)) = Option.some (Go.Value.int
 Go.IntKind.i64 x_41)) ∧ ∃ (x_42 : Bool), (∀ (u : Go.World), S u → Go.World.cell? u (Go.Addr.add (Go.Addr.add ad (Int.toNat x * (3 : Nat))) (2 : Nat)) = Option.some (Go.Value.bool x_42)) ∧ ∃ (x_43 :
 Option Go.Addr), ∃ (x_44 : Nat), ∃ (x_45 : Nat), (∀ (u : Go.World), S u → Go.World.cell? u (Go.Addr.add (Go.Addr.mk g_1 (0 : Nat) Option.none) (6 : Nat)) = Option.some (Go.Value.slice x_43 x_44 x_45))
 ∧ ∃ (ad : Go.Addr), x_43 = Option.some ad ∧ ((0 : Int) ≤ x ∧ x < (↑x_44 : Int)) ∧ ∃ (x_46 : Option Go.Addr), ∃ (x_47 : Nat), ∃ (x_48 : Nat), (∀ (u : Go.World), S u → Go.World.cell? u (Go.Addr.add
 (Go.Addr.add ad (Int.toNat x * (3 : Nat))) (0 : Nat)) = Option.some (Go.Value.slice x_46 x_47 x_48)) ∧ ∃ (x_49 : Int), (∀ (u : Go.World), S u → Go.World.cell? u (Go.Addr.add (Go.Addr.add ad (Int.toNat
 x * (3 : Nat))) (1 : Nat)) = Option.some (Go.Value.int Go.IntKind.i64 x_49)) ∧ ∃ (x_50 : Bool), (∀ (u : Go.World), S u → Go.World.cell? u (Go.Addr.add (Go.Addr.add ad (Int.toNat x * (3 : Nat))) (2 :
 Nat)) = Option.some (Go.Value.bool x_50)) ∧ (∀ (g : Nat) (w' : Go.World), Go.Sx.Fresh (Go.World.drew w) g w' [Go.Value.slice Option.none (0 : Nat) (0 : Nat), Go.Value.int Go.IntKind.i64 (0 : Int),
 Go.Value.bool Bool.false] (56 : Nat) → S w' ∧ ∀ (g_2 : Nat) (w'_2 : Go.World), Go.Sx.Fresh w' g_2 w'_2 [Go.Value.slice Option.none (0 : Nat) (0 : Nat), Go.Value.int Go.IntKind.i64 (0 : Int),
 Go.Value.bool Bool.false] (56 : Nat) → S w'_2 ∧ Go.Sx.stOK (Go.Addr.mk g (0 : Nat) Option.none) (0 : Nat) [Go.Value.slice x_38 x_39 x_40, Go.Value.int Go.IntKind.i64 x_41, Go.Value.bool x_42] w'_2 ∧ ∀
 (w' : Go.World), w' = Go.Sx.setAll (Go.Addr.mk g (0 : Nat) Option.none) (0 : Nat) [Go.Value.slice x_38 x_39 x_40, Go.Value.int Go.IntKind.i64 x_41, Go.Value.bool x_42] w'_2 → S w' ∧ Go.Sx.stOK
 (Go.Addr.mk g_2 (0 : Nat) Option.none) (0 : Nat) [Go.Value.slice x_46 x_47 x_48, Go.Value.int Go.IntKind.i64 x_49, Go.Value.bool x_50] w' ∧ ∀ (w'_3 : Go.World), w'_3 = Go.Sx.setAll (Go.Addr.mk g_2 (0 :
 Nat) Option.none) (0 : Nat) [Go.Value.slice x_46 x_47 x_48, Go.Value.int Go.IntKind.i64 x_49, Go.Value.bool x_50] w' → ∃ (x_51 : Int), Go.World.cell? w'_3 (Go.Addr.add (Go.Addr.mk g (0 : Nat)
 Option.none) (1 : Nat)) = Option.some (Go.Value.int Go.IntKind.i64 x_51) ∧ ∃ (x_52 : Int), Go.World.cell? w'_3 (Go.Addr.add (Go.Addr.mk g_2 (0 : Nat) Option.none) (1 : Nat)) = Option.some (Go.Value.int
 Go.IntKind.i64 x_52) ∧ bif !Decidable.decide (x_51 = x_52) then K (Go.Value.bool Bool.false) w'_3 else ∃ (x_53 : Bool), Go.World.cell? w'_3 (Go.Addr.add (Go.Addr.mk g (0 : Nat) Option.none) (2 : Nat))
 = Option.some (Go.Value.bool x_53) ∧ ∃ (x_54 : Bool), Go.World.cell? w'_3 (Go.Addr.add (Go.Addr.mk g_2 (0 : Nat) Option.none) (2 : Nat)) = Option.some (Go.Value.bool x_54) ∧ bif !Decidable.decide (x_53
 = x_54) then K (Go.Value.bool Bool.false) w'_3 else ∃ (x_55 : Option Go.Addr), ∃ (x_56 : Nat), ∃ (x_57 : Nat), Go.World.cell? w'_3 (Go.Addr.add (Go.Addr.mk g (0 : Nat) Option.none) (0 : Nat)) =
 Option.some (Go.Value.slice x_55 x_56 x_57) ∧ ∃ (x_58 : Option Go.Addr), ∃ (x_59 : Nat), ∃ (x_60 : Nat), Go.World.cell? w'_3 (Go.Addr.add (Go.Addr.mk g_2 (0 : Nat) Option.none) (0 : Nat)) = Option.some
 (Go.Value.slice x_58 x_59 x_60) ∧ bif !Decidable.decide ((↑x_56 : Int) = (↑x_59 : Int)) then K (Go.Value.bool Bool.false) w'_3 else ∃ (x_61 : Option Go.Addr), ∃ (x_62 : Nat), ∃ (x_63 : Nat),
 Go.World.cell? w'_3 (Go.Addr.add (Go.Addr.mk g (0 : Nat) Option.none) (0 : Nat)) = Option.some (Go.Value.slice x_61 x_62 x_63) ∧ ∃ (I_1 : Int → Go.World → Prop), ∃ (μ_1 : Int → Go.World → Nat), I_1 (0
 : Int) w'_3 ∧ ∀ (x_64 : Int) (w_1 : Go.World), I_1 x_64 w_1 → bif Decidable.decide (x_64 < (↑x_62 : Int)) then ∃ (S : Go.World → Prop), S (Go.World.drew w_1) ∧ ∃ (x : Option Go.Addr), ∃ (x_65 : Nat), ∃
 (x_66 : Nat), (∀ (u : Go.World), S u → Go.World.cell? u (Go.Addr.add (Go.Addr.mk g (0 : Nat) Option.none) (0 : Nat)) = Option.some (Go.Value.slice x x_65 x_66)) ∧ ∃ (ad : Go.Addr), x = Option.some ad ∧
 ((0 : Int) ≤ x_64 ∧ x_64 < (↑x_65 : Int)) ∧ ∃ (x : Bool), (∀ (u : Go.World), S u → Go.World.cell? u (Go.Addr.add ad (Int.toNat x_64 * (1 : Nat))) = Option.some (Go.Value.bool x)) ∧ ∃ (x_67 : Option
 Go.Addr), ∃ (x_68 : Nat), ∃ (x_69 : Nat), (∀ (u : Go.World), S u → Go.World.cell? u (Go.Addr.add (Go.Addr.mk g_2 (0 : Nat) Option.none) (0 : Nat)) = Option.some (Go.Value.slice x_67 x_68 x_69)) ∧ ∃ (ad
 : Go.Addr), x_67 = Option.some ad ∧ ((0 : Int) ≤ x_64 ∧ x_64 < (↑x_68 : Int)) ∧ ∃ (x_70 : Bool), (∀ (u : Go.World), S u → Go.World.cell? u (Go.Addr.add ad (Int.toNat x_64 * (1 : Nat))) = Option.some
 (Go.Value.bool x_70)) ∧ bif !Decidable.decide (x = x_70) then K (Go.Value.bool Bool.false) (Go.World.drew w_1) else I_1 (Go.IntKind.wrap Go.IntKind.i64 (x_64 + (1 : Int))) (Go.World.drew w_1) ∧ μ_1
 (Go.IntKind.wrap Go.IntKind.i64 (x_64 + (1 : Int))) (Go.World.drew w_1) < μ_1 x_64 w_1 else I (Go.IntKind.wrap Go.IntKind.i64 (x + (1 : Int))) w_1 ∧ μ (Go.IntKind.wrap Go.IntKind.i64 (x + (1 : Int)))
 w_1 < μ x w) ∧ ∀ (g : Nat) (w' : Go.World), Go.Sx.Fresh (Go.World.drew w) g w' [Go.Value.slice Option.none (0 : Nat) (0 : Nat), Go.Value.int Go.IntKind.i64 (0 : Int), Go.Value.bool Bool.false] (56 :
 Nat) → S w' ∧ ∀ (g_2 : Nat) (w'_2 : Go.World), Go.Sx.Fresh w' g_2 w'_2 [Go.Value.slice Option.none (0 : Nat) (0 : Nat), Go.Value.int Go.IntKind.i64 (0 : Int), Go.Value.bool Bool.false] (56 : Nat) → S
 w'_2 ∧ Go.Sx.stOK (Go.Addr.mk g_2 (0 : Nat) Option.none) (0 : Nat) [Go.Value.slice x_38 x_39 x_40, Go.Value.int Go.IntKind.i64 x_41, Go.Value.bool x_42] w'_2 ∧ ∀ (w' : Go.World), w' = Go.Sx.setAll
 (Go.Addr.mk g_2 (0 : Nat) Option.none) (0 : Nat) [Go.Value.slice x_38 x_39 x_40, Go.Value.int Go.IntKind.i64 x_41, Go.Value.bool x_42] w'_2 → S w' ∧ Go.Sx.stOK (Go.Addr.mk g (0 : Nat) Option.none) (0 :
 Nat) [Go.Value.slice x_46 x_47 x_48, Go.Value.int Go.IntKind.i64 x_49, Go.Value.bool x_50] w' ∧ ∀ (w'_3 : Go.World), w'_3 = Go.Sx.setAll (Go.Addr.mk g (0 : Nat) Option.none) (0 : Nat) [Go.Value.slice
 x_46 x_47 x_48, Go.Value.int Go.IntKind.i64 x_49, Go.Value.bool x_50] w' → ∃ (x_51 : Int), Go.World.cell? w'_3 (Go.Addr.add (Go.Addr.mk g_2 (0 : Nat) Option.none) (1 : Nat)) = Option.some (Go.Value.int
 Go.IntKind.i64 x_51) ∧ ∃ (x_52 : Int), Go.World.cell? w'_3 (Go.Addr.add (Go.Addr.mk g (0 : Nat) Option.none) (1 : Nat)) = Option.some (Go.Value.int Go.IntKind.i64 x_52) ∧ bif !Decidable.decide (x_51 =
 x_52) then K (Go.Value.bool Bool.false) w'_3 else ∃ (x_53 : Bool), Go.World.cell? w'_3 (Go.Addr.add (Go.Addr.mk g_2 (0 : Nat) Option.none) (2 : Nat)) = Option.some (Go.Value.bool x_53) ∧ ∃ (x_54 :
 Bool), Go.World.cell? w'_3 (Go.Addr.add (Go.Addr.mk g (0 : Nat) Option.none) (2 : Nat)) = Option.some (Go.Value.bool x_54) ∧ bif !Decidable.decide (x_53 = x_54) then K (Go.Value.bool Bool.false) w'_3
 else ∃ (x_55 : Option Go.Addr), ∃ (x_56 : Nat), ∃ (x_57 : Nat), Go.World.cell? w'_3 (Go.Addr.add (Go.Addr.mk g_2 (0 : Nat) Option.none) (0 : Nat)) = Option.some (Go.Value.slice x_55 x_56 x_57) ∧ ∃
 (x_58 : Option Go.Addr), ∃ (x_59 : Nat), ∃ (x_60 : Nat), Go.World.cell? w'_3 (Go.Addr.add (Go.Addr.mk g (0 : Nat) Option.none) (0 : Nat)) = Option.some (Go.Value.slice x_58 x_59 x_60) ∧ bif
 !Decidable.decide ((↑x_56 : Int) = (↑x_59 : Int)) then K (Go.Value.bool Bool.false) w'_3 else ∃ (x_61 : Option Go.Addr), ∃ (x_62 : Nat), ∃ (x_63 : Nat), Go.World.cell? w'_3 (Go.Addr.add (Go.Addr.mk g_2
 (0 : Nat) Option.none) (0 : Nat)) = Option.some (Go.Value.slice x_61 x_62 x_63) ∧ ∃ (I_1 : Int → Go.World → Prop), ∃ (μ_1 : Int → Go.World → Nat), I_1 (0 : Int) w'_3 ∧ ∀ (x_64 : Int) (w_1 : Go.World),
 I_1 x_64 w_1 → bif Decidable.decide (x_64 < (↑x_62 : Int)) then ∃ (S : Go.World → Prop), S (Go.World.drew w_1) ∧ ∃ (x : Option Go.Addr), ∃ (x_65 : Nat), ∃ (x_66 : Nat), (∀ (u : Go.World), S u →
 Go.World.cell? u (Go.Addr.add (Go.Addr.mk g_2 (0 : Nat) Option.none) (0 : Nat)) = Option.some (Go.Value.slice x x_65 x_66)) ∧ ∃ (ad : Go.Addr), x = Option.some ad ∧ ((0 : Int) ≤ x_64 ∧ x_64 < (↑x_65 :
 Int)) ∧ ∃ (x : Bool), (∀ (u : Go.World), S u → Go.World.cell? u (Go.Addr.add ad (Int.toNat x_64 * (1 : Nat))) = Option.some (Go.Value.bool x)) ∧ ∃ (x_67 : Option Go.Addr), ∃ (x_68 : Nat), ∃ (x_69 :
 Nat), (∀ (u : Go.World), S u → Go.World.cell? u (Go.Addr.add (Go.Addr.mk g (0 : Nat) Option.none) (0 : Nat)) = Option.some (Go.Value.slice x_67 x_68 x_69)) ∧ ∃ (ad : Go.Addr), x_67 = Option.some ad ∧
 ((0 : Int) ≤ x_64 ∧ x_64 < (↑x_68 : Int)) ∧ ∃ (x_70 : Bool), (∀ (u : Go.World), S u → Go.World.cell? u (Go.Addr.add ad (Int.toNat x_64 * (1 : Nat))) = Option.some (Go.Value.bool x_70)) ∧ bif
 !Decidable.decide (x = x_70) then K (Go.Value.bool Bool.false) (Go.World.drew w_1) else I_1 (Go.IntKind.wrap Go.IntKind.i64 (x_64 + (1 : Int))) (Go.World.drew w_1) ∧ μ_1 (Go.IntKind.wrap Go.IntKind.i64
 (x_64 + (1 : Int))) (Go.World.drew w_1) < μ_1 x_64 w_1 else I (Go.IntKind.wrap Go.IntKind.i64 (x + (1 : Int))) w_1 ∧ μ (Go.IntKind.wrap Go.IntKind.i64 (x + (1 : Int))) w_1 < μ x w else ∃ (x : Option
 Go.Addr), ∃ (x_35 : Nat), ∃ (x_36 : Nat), Go.World.cell? w (Go.Addr.add (Go.Addr.mk g (0 : Nat) Option.none) (7 : Nat)) = Option.some (Go.Value.slice x x_35 x_36) ∧ ∃ (I : Int → Go.World → Prop), ∃ (μ
 : Int → Go.World → Nat), I (0 : Int) w ∧ ∀ (x : Int) (w : Go.World), I x w → bif Decidable.decide (x < (↑x_35 : Int)) then ∃ (S : Go.World → Prop), S (Go.World.drew w) ∧ ∃ (x_37 : Option Go.Addr), ∃
 (x_38 : Nat), ∃ (x_39 : Nat), (∀ (u : Go.World), S u → Go.World.cell? u (Go.Addr.add (Go.Addr.mk g (0 : Nat) Option.none) (7 : Nat)) = Option.some (Go.Value.slice x_37 x_38 x_39)) ∧ ∃ (ad : Go.Addr),
 x_37 = Option.some ad ∧ ((0 : Int) ≤ x ∧ x < (↑x_38 : Int)) ∧ ∃ (x_40 : ByteArray), (∀ (u : Go.World), S u → Go.World.cell? u (Go.Addr.add (Go.Addr.add ad (Int.toNat x * (2 : Nat))) (0 : Nat)) =
 Option.some (Go.Value.string x_40)) ∧ ∃ (x_41 : Bool), (∀ (u : Go.World), S u → Go.World.cell? u (Go.Addr.add (Go.Addr.add ad (Int.toNat x * (2 : Nat))) (1 : Nat)) = Option.some (Go.Value.bool x_41)) ∧
 ∃ (x_42 : Option Go.Addr), ∃ (x_43 : Nat), ∃ (x_44 : Nat), (∀ (u : Go.World), S u → Go.World.cell? u (Go.Addr.add (Go.Addr.mk g_1 (0 : Nat) Option.none) (7 : Nat)) = Option.some (Go.Value.slice x_42
 x_43 x_44)) ∧ ∃ (ad : Go.Addr), x_42 = Option.some ad ∧ ((0 : Int) ≤ x ∧ x < (↑x_43 : Int)) ∧ ∃ (x_45 : ByteArray), (∀ (u : Go.World), S u → Go.World.cell? u (Go.Addr.add (Go.Addr.add ad (Int.toNat x *
 (2 : Nat))) (0 : Nat)) = Option.some (Go.Value.string x_45)) ∧ ∃ (x_46 : Bool), (∀ (u : Go.World), S u → Go.World.cell? u (Go.Addr.add (Go.Addr.add ad (Int.toNat x * (2 : Nat))) (1 : Nat)) =
 Option.some (Go.Value.bool x_46)) ∧ bif Go.Program.stoodInHeld Go.Proofs.Tryd.prog (58 : Nat) || Go.Program.eqGuardType Go.Proofs.Tryd.prog (Go.Program.depth Go.Proofs.Tryd.prog) (58 : Nat) || List.any
 (Array.toList #[Go.Field.mk "Func" (9 : Nat) (0 : Nat) Bool.false "" "" (0 : Nat), Go.Field.mk "Distinct" (4 : Nat) (1 : Nat) Bool.false "" "" (16 : Nat)]) fun (f : Go.Field) => Go.Field.name f == "_"
 then False else bif !(ByteArray.toList x_40 == ByteArray.toList x_45 && (Decidable.decide (x_41 = x_46) && Bool.true)) then K (Go.Value.bool Bool.false) (Go.World.drew w) else I (Go.IntKind.wrap
 Go.IntKind.i64 (x + (1 : Int))) (Go.World.drew w) ∧ μ (Go.IntKind.wrap Go.IntKind.i64 (x + (1 : Int))) (Go.World.drew w) < μ x w else ∃ (x : Option Go.Addr), ∃ (x_37 : Nat), ∃ (x_38 : Nat),
 Go.World.cell? w (Go.Addr.add (Go.Addr.mk g (0 : Nat) Option.none) (8 : Nat)) = Option.some (Go.Value.slice x x_37 x_38) ∧ ∃ (I : Int → Go.World → Prop), ∃ (μ : Int → Go.World → Nat), I (0 : Int) w ∧ ∀
 (x : Int) (w : Go.World), I x w → bif Decidable.decide (x < (↑x_37 : Int)) then ∃ (S : Go.World → Prop), S (Go.World.drew w) ∧ ∃ (x_39 : Option Go.Addr), ∃ (x_40 : Nat), ∃ (x_41 : Nat), (∀ (u :
 Go.World), S u → Go.World.cell? u (Go.Addr.add (Go.Addr.mk g (0 : Nat) Option.none) (8 : Nat)) = Option.some (Go.Value.slice x_39 x_40 x_41)) ∧ ∃ (ad : Go.Addr), x_39 = Option.some ad ∧ ((0 : Int) ≤ x
 ∧ x < (↑x_40 : Int)) ∧ ∃ (x_42 : Int), (∀ (u : Go.World), S u → Go.World.cell? u (Go.Addr.add (Go.Addr.add ad (Int.toNat x * (5 : Nat))) (0 : Nat)) = Option.some (Go.Value.int Go.IntKind.u8 x_42)) ∧ ∃
 (x_43 : Int), (∀ (u : Go.World), S u → Go.World.cell? u (Go.Addr.add (Go.Addr.add ad (Int.toNat x * (5 : Nat))) (1 : Nat)) = Option.some (Go.Value.int Go.IntKind.i64 x_43)) ∧ ∃ (x_44 : Int), (∀ (u :
 Go.World), S u → Go.World.cell? u (Go.Addr.add (Go.Addr.add ad (Int.toNat x * (5 : Nat))) (2 : Nat)) = Option.some (Go.Value.int Go.IntKind.i64 x_44)) ∧ ∃ (x_45 : Int), (∀ (u : Go.World), S u →
 Go.World.cell? u (Go.Addr.add (Go.Addr.add ad (Int.toNat x * (5 : Nat))) (3 : Nat)) = Option.some (Go.Value.int Go.IntKind.i64 x_45)) ∧ ∃ (x_46 : Int), (∀ (u : Go.World), S u → Go.World.cell? u
 (Go.Addr.add (Go.Addr.add ad (Int.toNat x * (5 : Nat))) (4 : Nat)) = Option.some (Go.Value.int Go.IntKind.i64 x_46)) ∧ ∃ (x_47 : Option Go.Addr), ∃ (x_48 : Nat), ∃ (x_49 : Nat), (∀ (u : Go.World), S u
 → Go.World.cell? u (Go.Addr.add (Go.Addr.mk g_1 (0 : Nat) Option.none) (8 : Nat)) = Option.some (Go.Value.slice x_47 x_48 x_49)) ∧ ∃ (ad : Go.Addr), x_47 = Option.some ad ∧ ((0 : Int) ≤ x ∧ x < (↑x_48
 : Int)) ∧ ∃ (x_50 : Int), (∀ (u : Go.World), S u → Go.World.cell? u (Go.Addr.add (Go.Addr.add ad (Int.toNat x * (5 : Nat))) (0 : Nat)) = Option.some (Go.Value.int Go.IntKind.u8 x_50)) ∧ ∃ (x_51 : Int),
 (∀ (u : Go.World), S u → Go.World.cell? u (Go.Addr.add (Go.Addr.add ad (Int.toNat x * (5 : Nat))) (1 : Nat)) = Option.some (Go.Value.int Go.IntKind.i64 x_51)) ∧ ∃ (x_52 : Int), (∀ (u : Go.World), S u →
 Go.World.cell? u (Go.Addr.add (Go.Addr.add ad (Int.toNat x * (5 : Nat))) (2 : Nat)) = Option.some (Go.Value.int Go.IntKind.i64 x_52)) ∧ ∃ (x_53 : Int), (∀ (u : Go.World), S u → Go.World.cell? u
 (Go.Addr.add (Go.Addr.add ad (Int.toNat x * (5 : Nat))) (3 : Nat)) = Option.some (Go.Value.int Go.IntKind.i64 x_53)) ∧ ∃ (x_54 : Int), (∀ (u : Go.World), S u → Go.World.cell? u (Go.Addr.add
 (Go.Addr.add ad (Int.toNat x * (5 : Nat))) (4 : Nat)) = Option.some (Go.Value.int Go.IntKind.i64 x_54)) ∧ bif Go.Program.stoodInHeld Go.Proofs.Tryd.prog (38 : Nat) || Go.Program.eqGuardType
 Go.Proofs.Tryd.prog (Go.Program.depth Go.Proofs.Tryd.prog) (38 : Nat) || List.any (Array.toList #[Go.Field.mk "Op" (36 : Nat) (0 : Nat) Bool.false "" "" (0 : Nat), Go.Field.mk "A" (3 : Nat) (1 : Nat)
 Bool.false "" "" (8 : Nat), Go.Field.mk "B" (3 : Nat) (2 : Nat) Bool.false "" "" (16 : Nat), Go.Field.mk "C" (3 : Nat) (3 : Nat) Bool.false "" "" (24 : Nat), Go.Field.mk "D" (3 : Nat) (4 : Nat)
 Bool.false "" "" (32 : Nat)]) fun (f : Go.Field) => Go.Field.name f == "_" then False else bif !(Decidable.decide (x_42 = x_50) && (Decidable.decide (x_43 = x_51) && (Decidable.decide (x_44 = x_52) &&
 (Decidable.decide (x_45 = x_53) && (Decidable.decide (x_46 = x_54) && Bool.true))))) then K (Go.Value.bool Bool.false) (Go.World.drew w) else I (Go.IntKind.wrap Go.IntKind.i64 (x + (1 : Int)))
 (Go.World.drew w) ∧ μ (Go.IntKind.wrap Go.IntKind.i64 (x + (1 : Int))) (Go.World.drew w) < μ x w else K (Go.Value.bool Bool.true) w
theorem cardindexlaw15_Same.eq (a0 : Int) (a1 : Int) (a2 : Int) (a3_A : Option Addr) (a3_n : Nat) (a3_c : Nat) (a4_A : Option Addr) (a4_n : Nat) (a4_c : Nat) (a5_A : Option Addr) (a5_n : Nat) (a5_c : Nat) (a6_A : Option Addr) (a6_n : Nat) (a6_c : Nat) (a7_A : Option Addr) (a7_n : Nat) (a7_c : Nat) (a8_A : Option Addr) (a8_n : Nat) (a8_c : Nat) (b0 : Int) (b1 : Int) (b2 : Int) (b3_A : Option Addr) (b3_n : Nat) (b3_c : Nat) (b4_A : Option Addr) (b4_n : Nat) (b4_c : Nat) (b5_A : Option Addr) (b5_n : Nat) (b5_c : Nat) (b6_A : Option Addr) (b6_n : Nat) (b6_c : Nat) (b7_A : Option Addr) (b7_n : Nat) (b7_c : Nat) (b8_A : Option Addr) (b8_n : Nat) (b8_c : Nat) (w : World) (K : Value → World → Prop) : cardindexlaw15_Same.W a0 a1 a2 a3_A a3_n a3_c a4_A a4_n a4_c a5_A a5_n a5_c a6_A a6_n a6_c a7_A a7_n a7_c a8_A a8_n a8_c b0 b1 b2 b3_A b3_n b3_c b4_A b4_n b4_c b5_A b5_n b5_c b6_A b6_n b6_c b7_A b7_n b7_c b8_A b8_n b8_c w K = fnW Tryd.prog Tryd.f17 (.named (.seq .auto (.seq .auto (.seq (.seq .auto (.block (.loop [(88, .one (.int .i64))] .auto))) (.seq (.seq .auto (.block (.loop [(106, .one (.int .i64))] .auto))) (.seq (.seq .auto (.block (.loop [(124, .one (.int .i64))] (.seq .auto (.seq .auto (.seq (.block (.seq .auto (.seq .auto (.seq .auto (.seq .auto (.block (.loop [(161, .one (.int .i64))] .auto))))))) .auto)))))) (.seq (.seq .auto (.block (.loop [(180, .one (.int .i64))] .auto))) (.seq (.seq .auto (.block (.loop [(198, .one (.int .i64))] .auto))) .auto)))))))) [.agg #[.int .i64 a0, .int .i64 a1, .int .i64 a2, .slice a3_A a3_n a3_c, .slice a4_A a4_n a4_c, .slice a5_A a5_n a5_c, .slice a6_A a6_n a6_c, .slice a7_A a7_n a7_c, .slice a8_A a8_n a8_c], .agg #[.int .i64 b0, .int .i64 b1, .int .i64 b2, .slice b3_A b3_n b3_c, .slice b4_A b4_n b4_c, .slice b5_A b5_n b5_c, .slice b6_A b6_n b6_c, .slice b7_A b7_n b7_c, .slice b8_A b8_n b8_c]] w K := by kernel_rfl
theorem cardindexlaw15_Same.calls (ok : Okay Tryd.prog) {a0 : Int} {a1 : Int} {a2 : Int} {a3_A : Option Addr} {a3_n : Nat} {a3_c : Nat} {a4_A : Option Addr} {a4_n : Nat} {a4_c : Nat} {a5_A : Option Addr} {a5_n : Nat} {a5_c : Nat} {a6_A : Option Addr} {a6_n : Nat} {a6_c : Nat} {a7_A : Option Addr} {a7_n : Nat} {a7_c : Nat} {a8_A : Option Addr} {a8_n : Nat} {a8_c : Nat} {b0 : Int} {b1 : Int} {b2 : Int} {b3_A : Option Addr} {b3_n : Nat} {b3_c : Nat} {b4_A : Option Addr} {b4_n : Nat} {b4_c : Nat} {b5_A : Option Addr} {b5_n : Nat} {b5_c : Nat} {b6_A : Option Addr} {b6_n : Nat} {b6_c : Nat} {b7_A : Option Addr} {b7_n : Nat} {b7_c : Nat} {b8_A : Option Addr} {b8_n : Nat} {b8_c : Nat} {w : World} {K : Value → World → Prop} (h : cardindexlaw15_Same.W a0 a1 a2 a3_A a3_n a3_c a4_A a4_n a4_c a5_A a5_n a5_c a6_A a6_n a6_c a7_A a7_n a7_c a8_A a8_n a8_c b0 b1 b2 b3_A b3_n b3_c b4_A b4_n b4_c b5_A b5_n b5_c b6_A b6_n b6_c b7_A b7_n b7_c b8_A b8_n b8_c w K) : CallsV Tryd.prog 17 #[.agg #[.int .i64 a0, .int .i64 a1, .int .i64 a2, .slice a3_A a3_n a3_c, .slice a4_A a4_n a4_c, .slice a5_A a5_n a5_c, .slice a6_A a6_n a6_c, .slice a7_A a7_n a7_c, .slice a8_A a8_n a8_c], .agg #[.int .i64 b0, .int .i64 b1, .int .i64 b2, .slice b3_A b3_n b3_c, .slice b4_A b4_n b4_c, .slice b5_A b5_n b5_c, .slice b6_A b6_n b6_c, .slice b7_A b7_n b7_c, .slice b8_A b8_n b8_c]] w K :=
  fnW_calls ok Tryd.func17 (an := (.named (.seq .auto (.seq .auto (.seq (.seq .auto (.block (.loop [(88, .one (.int .i64))] .auto))) (.seq (.seq .auto (.block (.loop [(106, .one (.int .i64))] .auto))) (.seq (.seq .auto (.block (.loop [(124, .one (.int .i64))] (.seq .auto (.seq .auto (.seq (.block (.seq .auto (.seq .auto (.seq .auto (.seq .auto (.block (.loop [(161, .one (.int .i64))] .auto))))))) .auto)))))) (.seq (.seq .auto (.block (.loop [(180, .one (.int .i64))] .auto))) (.seq (.seq .auto (.block (.loop [(198, .one (.int .i64))] .auto))) .auto))))))))) (args := [.agg #[.int .i64 a0, .int .i64 a1, .int .i64 a2, .slice a3_A a3_n a3_c, .slice a4_A a4_n a4_c, .slice a5_A a5_n a5_c, .slice a6_A a6_n a6_c, .slice a7_A a7_n a7_c, .slice a8_A a8_n a8_c], .agg #[.int .i64 b0, .int .i64 b1, .int .i64 b2, .slice b3_A b3_n b3_c, .slice b4_A b4_n b4_c, .slice b5_A b5_n b5_c, .slice b6_A b6_n b6_c, .slice b7_A b7_n b7_c, .slice b8_A b8_n b8_c]]) (by rw [← cardindexlaw15_Same.eq]; exact h)
noncomputable def cardindexkit_SameTexts.W : Option Addr → Nat → Nat → Option Addr → Nat → Nat → World → (Value → World → Prop) → Prop := fun (a_A : Option Go.Addr) (a_n a_c : Nat) (b_A : Option
 Go.Addr) (b_n b_c : Nat) (w : Go.World) (K : Go.Value → Go.World → Prop) => bif !Decidable.decide ((↑a_n : Int) = (↑b_n : Int)) then K (Go.Value.bool Bool.false) w else ∃ (I : Int → Go.World → Prop), ∃
 (μ : Int → Go.World → Nat), I (0 : Int) w ∧ ∀ (x : Int) (w : Go.World), I x w → bif Decidable.decide (x < (↑a_n : Int)) then ∃ (ad : Go.Addr), a_A = Option.some ad ∧ ((0 : Int) ≤ x ∧ x < (↑a_n : Int))
 ∧ ∃ (S : Go.World → Prop), S (Go.World.drew w) ∧ ∃ (x_1 : ByteArray), (∀ (u : Go.World), S u → Go.World.cell? u (Go.Addr.add ad (Int.toNat x * (1 : Nat))) = Option.some (Go.Value.string x_1)) ∧ ∃ (ad :
 Go.Addr), b_A = Option.some ad ∧ ((0 : Int) ≤ x ∧ x < (↑b_n : Int)) ∧ ∃ (x_2 : ByteArray), (∀ (u : Go.World), S u → Go.World.cell? u (Go.Addr.add ad (Int.toNat x * (1 : Nat))) = Option.some
 (Go.Value.string x_2)) ∧ bif !ByteArray.toList x_1 == ByteArray.toList x_2 then K (Go.Value.bool Bool.false) (Go.World.drew w) else I (Go.IntKind.wrap Go.IntKind.i64 (x + (1 : Int))) (Go.World.drew w)
 ∧ μ (Go.IntKind.wrap Go.IntKind.i64 (x + (1 : Int))) (Go.World.drew w) < μ x w else K (Go.Value.bool Bool.true) w
theorem cardindexkit_SameTexts.eq (a_A : Option Addr) (a_n : Nat) (a_c : Nat) (b_A : Option Addr) (b_n : Nat) (b_c : Nat) (w : World) (K : Value → World → Prop) : cardindexkit_SameTexts.W a_A a_n a_c b_A b_n b_c w K = fnW Tryd.prog Tryd.f33 (.named (.seq .auto (.seq .auto (.seq (.seq .auto (.block (.loop [(5, .one (.int .i64))] .auto))) .auto)))) [.slice a_A a_n a_c, .slice b_A b_n b_c] w K := by kernel_rfl
theorem cardindexkit_SameTexts.calls (ok : Okay Tryd.prog) {a_A : Option Addr} {a_n : Nat} {a_c : Nat} {b_A : Option Addr} {b_n : Nat} {b_c : Nat} {w : World} {K : Value → World → Prop} (h : cardindexkit_SameTexts.W a_A a_n a_c b_A b_n b_c w K) : CallsV Tryd.prog 33 #[.slice a_A a_n a_c, .slice b_A b_n b_c] w K :=
  fnW_calls ok Tryd.func33 (an := (.named (.seq .auto (.seq .auto (.seq (.seq .auto (.block (.loop [(5, .one (.int .i64))] .auto))) .auto))))) (args := [.slice a_A a_n a_c, .slice b_A b_n b_c]) (by rw [← cardindexkit_SameTexts.eq]; exact h)
end Go.Proofs.YtaifphjenebgoaaDoor
/- The preconditions of Go functions, printed by a program of this workplace (nests.py); each is proved to be the engine's own. -/
set_option linter.unusedVariables false
set_option maxRecDepth 100000
namespace Go.Proofs.YtaifphjenebgoaaDoor
open Go Go.Sx
noncomputable def bytes_digit.W : Int → Int → World → (Value → World → Prop) → Prop := fun (n k : Int) (w : Go.World) (K : Go.Value → Go.World → Prop) => (0 : Int) ≤ Go.IntKind.wrap Go.IntKind.i64 ((7
 : Int) * k) ∧ (128 : Int) ≠ (0 : Int) ∧ K (Go.Value.int Go.IntKind.u8 (Go.IntKind.wrap Go.IntKind.u8 (Int.tmod (Int.fdiv n ((2 : Int) ^ Min.min (Int.toNat (Go.IntKind.wrap Go.IntKind.i64 ((7 : Int) *
 k))) (64 : Nat))) (128 : Int)))) w
theorem bytes_digit.eq (n : Int) (k : Int) (w : World) (K : Value → World → Prop) : bytes_digit.W n k w K = fnW Tryd.prog Tryd.f85 .auto [.int .u64 n, .int .i64 k] w K := by kernel_rfl
theorem bytes_digit.calls (ok : Okay Tryd.prog) {n : Int} {k : Int} {w : World} {K : Value → World → Prop} (h : bytes_digit.W n k w K) : CallsV Tryd.prog 85 #[.int .u64 n, .int .i64 k] w K :=
  fnW_calls ok Tryd.func85 (an := .auto) (args := [.int .u64 n, .int .i64 k]) (by rw [← bytes_digit.eq]; exact h)
noncomputable def bytes_Uint.W : Option Addr → Nat → Nat → Int → World → (Value → World → Prop) → Prop := fun (out_A : Option Go.Addr) (out_n out_c : Nat) (n : Int) (w : Go.World) (K : Go.Value →
 Go.World → Prop) => ∃ (I : Int → Int → Go.World → Prop), ∃ (μ : Int → Int → Go.World → Nat), I (0 : Int) (0 : Int) w ∧ ∀ (x x_1 : Int) (w : Go.World), I x x_1 w → bif Decidable.decide (x_1 < (10 :
 Int)) then Go.Sx.CallsV Go.Proofs.Tryd.prog (85 : Nat) #[Go.Value.int Go.IntKind.u64 n, Go.Value.int Go.IntKind.i64 x_1] w fun (v : Go.Value) (w' : Go.World) => ∃ (x_2 : Int), v = Go.Value.int
 Go.IntKind.u8 x_2 ∧ bif Decidable.decide ((0 : Int) < x_2) then I x_1 (Go.IntKind.wrap Go.IntKind.i64 (x_1 + (1 : Int))) w' ∧ μ x_1 (Go.IntKind.wrap Go.IntKind.i64 (x_1 + (1 : Int))) w' < μ x x_1 w
 else I x (Go.IntKind.wrap Go.IntKind.i64 (x_1 + (1 : Int))) w' ∧ μ x (Go.IntKind.wrap Go.IntKind.i64 (x_1 + (1 : Int))) w' < μ x x_1 w else ∃ (I : Option Go.Addr → Nat → Nat → Int → Go.World → Prop), ∃
 (μ : Option Go.Addr → Nat → Nat → Int → Go.World → Nat), I out_A out_n out_c (0 : Int) w ∧ ∀ (x_2 : Option Go.Addr) (x_3 x_4 : Nat) (x_5 : Int) (w : Go.World), I x_2 x_3 x_4 x_5 w → bif
 Decidable.decide (x_5 < x) then Go.Sx.CallsV Go.Proofs.Tryd.prog (85 : Nat) #[Go.Value.int Go.IntKind.u64 n, Go.Value.int Go.IntKind.i64 x_5] w fun (v : Go.Value) (w' : Go.World) => ∃ (x : Int), v =
 Go.Value.int Go.IntKind.u8 x ∧ ∃ (x_6 : Option Go.Addr), ∃ (x_7 : Nat), ∃ (x_8 : Nat), ∃ (w'_1 : Go.World), Go.Sx.RunsTo Go.Proofs.Tryd.prog (Go.Builtin.append_ (Array.mk [(45 : Nat), (45 : Nat)]) (45
 : Nat) #[Go.Value.slice x_2 x_3 x_4, Go.Value.slice (Option.some (Go.Addr.mk (Array.size (Go.World.heap w')) (0 : Nat) Option.none)) (1 : Nat) (1 : Nat)]) (Go.World.alloc w' (Go.Obj.cells
 #[Go.Value.int Go.IntKind.u8 (Go.IntKind.wrap Go.IntKind.u8 (x + (128 : Int)))] (5 : Nat))) (Go.Value.slice x_6 x_7 x_8) w'_1 ∧ I x_6 x_7 x_8 (Go.IntKind.wrap Go.IntKind.i64 (x_5 + (1 : Int))) w'_1 ∧ μ
 x_6 x_7 x_8 (Go.IntKind.wrap Go.IntKind.i64 (x_5 + (1 : Int))) w'_1 < μ x_2 x_3 x_4 x_5 w else Go.Sx.CallsV Go.Proofs.Tryd.prog (85 : Nat) #[Go.Value.int Go.IntKind.u64 n, Go.Value.int Go.IntKind.i64
 x] w fun (v : Go.Value) (w' : Go.World) => ∃ (x : Int), v = Go.Value.int Go.IntKind.u8 x ∧ ∃ (x_6 : Option Go.Addr), ∃ (x_7 : Nat), ∃ (x_8 : Nat), ∃ (w'_1 : Go.World), Go.Sx.RunsTo Go.Proofs.Tryd.prog
 (Go.Builtin.append_ (Array.mk [(45 : Nat), (45 : Nat)]) (45 : Nat) #[Go.Value.slice x_2 x_3 x_4, Go.Value.slice (Option.some (Go.Addr.mk (Array.size (Go.World.heap w')) (0 : Nat) Option.none)) (1 :
 Nat) (1 : Nat)]) (Go.World.alloc w' (Go.Obj.cells #[Go.Value.int Go.IntKind.u8 x] (5 : Nat))) (Go.Value.slice x_6 x_7 x_8) w'_1 ∧ K (Go.Value.slice x_6 x_7 x_8) w'_1
theorem bytes_Uint.eq (out_A : Option Addr) (out_n : Nat) (out_c : Nat) (n : Int) (w : World) (K : Value → World → Prop) : bytes_Uint.W out_A out_n out_c n w K = fnW Tryd.prog Tryd.f65 (.seq .auto (.seq .auto (.seq (.seq .auto (.block (.loop [(5, .one (.int .i64)), (8, .one (.int .i64))] .auto))) (.seq (.seq .auto (.block (.loop [(0, .one .slc), (18, .one (.int .i64))] .auto))) .auto)))) [.slice out_A out_n out_c, .int .u64 n] w K := by kernel_rfl
theorem bytes_Uint.calls (ok : Okay Tryd.prog) {out_A : Option Addr} {out_n : Nat} {out_c : Nat} {n : Int} {w : World} {K : Value → World → Prop} (h : bytes_Uint.W out_A out_n out_c n w K) : CallsV Tryd.prog 65 #[.slice out_A out_n out_c, .int .u64 n] w K :=
  fnW_calls ok Tryd.func65 (an := (.seq .auto (.seq .auto (.seq (.seq .auto (.block (.loop [(5, .one (.int .i64)), (8, .one (.int .i64))] .auto))) (.seq (.seq .auto (.block (.loop [(0, .one .slc), (18, .one (.int .i64))] .auto))) .auto))))) (args := [.slice out_A out_n out_c, .int .u64 n]) (by rw [← bytes_Uint.eq]; exact h)
noncomputable def bytes_Blob.W : Option Addr → Nat → Nat → Option Addr → Nat → Nat → World → (Value → World → Prop) → Prop := fun (out_A : Option Go.Addr) (out_n out_c : Nat) (b_A : Option Go.Addr)
 (b_n b_c : Nat) (w : Go.World) (K : Go.Value → Go.World → Prop) => Go.Sx.CallsV Go.Proofs.Tryd.prog (65 : Nat) #[Go.Value.slice out_A out_n out_c, Go.Value.int Go.IntKind.u64 (Go.IntKind.wrap
 Go.IntKind.u64 (↑b_n : Int))] w fun (v : Go.Value) (w' : Go.World) => ∃ (x : Option Go.Addr), ∃ (x_1 : Nat), ∃ (x_2 : Nat), v = Go.Value.slice x x_1 x_2 ∧ ∃ (x_3 : Option Go.Addr), ∃ (x_4 : Nat), ∃
 (x_5 : Nat), ∃ (w'_1 : Go.World), Go.Sx.RunsTo Go.Proofs.Tryd.prog (Go.Builtin.append_ (Array.mk [(45 : Nat), (45 : Nat)]) (45 : Nat) #[Go.Value.slice x x_1 x_2, Go.Value.slice b_A b_n b_c]) w'
 (Go.Value.slice x_3 x_4 x_5) w'_1 ∧ K (Go.Value.slice x_3 x_4 x_5) w'_1
theorem bytes_Blob.eq (out_A : Option Addr) (out_n : Nat) (out_c : Nat) (b_A : Option Addr) (b_n : Nat) (b_c : Nat) (w : World) (K : Value → World → Prop) : bytes_Blob.W out_A out_n out_c b_A b_n b_c w K = fnW Tryd.prog Tryd.f31 .auto [.slice out_A out_n out_c, .slice b_A b_n b_c] w K := by kernel_rfl
theorem bytes_Blob.calls (ok : Okay Tryd.prog) {out_A : Option Addr} {out_n : Nat} {out_c : Nat} {b_A : Option Addr} {b_n : Nat} {b_c : Nat} {w : World} {K : Value → World → Prop} (h : bytes_Blob.W out_A out_n out_c b_A b_n b_c w K) : CallsV Tryd.prog 31 #[.slice out_A out_n out_c, .slice b_A b_n b_c] w K :=
  fnW_calls ok Tryd.func31 (an := .auto) (args := [.slice out_A out_n out_c, .slice b_A b_n b_c]) (by rw [← bytes_Blob.eq]; exact h)
noncomputable def record_Put.W : Option Addr → Nat → Nat → World → (Value → World → Prop) → Prop := fun (row_A : Option Go.Addr) (row_n row_c : Nat) (w : Go.World) (K : Go.Value → Go.World → Prop) =>
 Go.Sx.CallsV Go.Proofs.Tryd.prog (66 : Nat) #[Go.Value.slice row_A row_n row_c] w fun (v : Go.Value) (w' : Go.World) => ∃ (x : Int), v = Go.Value.int Go.IntKind.i64 x ∧ bif !Decidable.decide (x = (0 :
 Int)) then K (Go.Value.tuple #[Go.Value.slice Option.none (0 : Nat) (0 : Nat), Go.Value.int Go.IntKind.i64 x]) w' else Go.Sx.CallsV Go.Proofs.Tryd.prog (65 : Nat) #[Go.Value.slice Option.none (0 : Nat)
 (0 : Nat), Go.Value.int Go.IntKind.u64 (Go.IntKind.wrap Go.IntKind.u64 (↑row_n : Int))] w' fun (v : Go.Value) (w' : Go.World) => ∃ (x : Option Go.Addr), ∃ (x_1 : Nat), ∃ (x_2 : Nat), v = Go.Value.slice
 x x_1 x_2 ∧ ∃ (I : Option Go.Addr → Nat → Nat → Int → Go.World → Prop), ∃ (μ : Option Go.Addr → Nat → Nat → Int → Go.World → Nat), I x x_1 x_2 (0 : Int) w' ∧ ∀ (x : Option Go.Addr) (x_3 x_4 : Nat) (x_5
 : Int) (w : Go.World), I x x_3 x_4 x_5 w → bif Decidable.decide (x_5 < (↑row_n : Int)) then ∃ (ad : Go.Addr), row_A = Option.some ad ∧ ((0 : Int) ≤ x_5 ∧ x_5 < (↑row_n : Int)) ∧ ∃ (x_6 : Int),
 Go.World.cell? w (Go.Addr.add (Go.Addr.add ad (Int.toNat x_5 * (3 : Nat))) (0 : Nat)) = Option.some (Go.Value.int Go.IntKind.u8 x_6) ∧ ∃ (x_7 : Int), Go.World.cell? w (Go.Addr.add (Go.Addr.add ad
 (Int.toNat x_5 * (3 : Nat))) (1 : Nat)) = Option.some (Go.Value.int Go.IntKind.i64 x_7) ∧ ∃ (x_8 : ByteArray), Go.World.cell? w (Go.Addr.add (Go.Addr.add ad (Int.toNat x_5 * (3 : Nat))) (2 : Nat)) =
 Option.some (Go.Value.string x_8) ∧ (Option.isSome (Go.World.cell? (Go.World.alloc w (Go.Obj.cells #[Go.Value.int Go.IntKind.u8 (0 : Int), Go.Value.int Go.IntKind.i64 (0 : Int), Go.Value.string
 (ByteArray.mk #[])] (51 : Nat))) (Go.Addr.add (Go.Addr.mk (Array.size (Go.World.heap w)) (0 : Nat) Option.none) (0 : Nat))) = Bool.true ∧ Go.World.frozen? (Go.World.alloc w (Go.Obj.cells #[Go.Value.int
 Go.IntKind.u8 (0 : Int), Go.Value.int Go.IntKind.i64 (0 : Int), Go.Value.string (ByteArray.mk #[])] (51 : Nat))) (Go.Addr.add (Go.Addr.mk (Array.size (Go.World.heap w)) (0 : Nat) Option.none) (0 :
 Nat)) = Bool.false) ∧ (Option.isSome (Go.World.cell? (Go.World.setCell (Go.World.alloc w (Go.Obj.cells #[Go.Value.int Go.IntKind.u8 (0 : Int), Go.Value.int Go.IntKind.i64 (0 : Int), Go.Value.string
 (ByteArray.mk #[])] (51 : Nat))) (Go.Addr.add (Go.Addr.mk (Array.size (Go.World.heap w)) (0 : Nat) Option.none) (0 : Nat)) (Go.Value.int Go.IntKind.u8 x_6)) (Go.Addr.add (Go.Addr.mk (Array.size
 (Go.World.heap w)) (0 : Nat) Option.none) (1 : Nat))) = Bool.true ∧ Go.World.frozen? (Go.World.setCell (Go.World.alloc w (Go.Obj.cells #[Go.Value.int Go.IntKind.u8 (0 : Int), Go.Value.int
 Go.IntKind.i64 (0 : Int), Go.Value.string (ByteArray.mk #[])] (51 : Nat))) (Go.Addr.add (Go.Addr.mk (Array.size (Go.World.heap w)) (0 : Nat) Option.none) (0 : Nat)) (Go.Value.int Go.IntKind.u8 x_6))
 (Go.Addr.add (Go.Addr.mk (Array.size (Go.World.heap w)) (0 : Nat) Option.none) (1 : Nat)) = Bool.false) ∧ (Option.isSome (Go.World.cell? (Go.World.setCell (Go.World.setCell (Go.World.alloc w
 (Go.Obj.cells #[Go.Value.int Go.IntKind.u8 (0 : Int), Go.Value.int Go.IntKind.i64 (0 : Int), Go.Value.string (ByteArray.mk #[])] (51 : Nat))) (Go.Addr.add (Go.Addr.mk (Array.size (Go.World.heap w)) (0
 : Nat) Option.none) (0 : Nat)) (Go.Value.int Go.IntKind.u8 x_6)) (Go.Addr.add (Go.Addr.mk (Array.size (Go.World.heap w)) (0 : Nat) Option.none) (1 : Nat)) (Go.Value.int Go.IntKind.i64 x_7))
 (Go.Addr.add (Go.Addr.mk (Array.size (Go.World.heap w)) (0 : Nat) Option.none) (2 : Nat))) = Bool.true ∧ Go.World.frozen? (Go.World.setCell (Go.World.setCell (Go.World.alloc w (Go.Obj.cells
 #[Go.Value.int Go.IntKind.u8 (0 : Int), Go.Value.int Go.IntKind.i64 (0 : Int), Go.Value.string (ByteArray.mk #[])] (51 : Nat))) (Go.Addr.add (Go.Addr.mk (Array.size (Go.World.heap w)) (0 : Nat)
 Option.none) (0 : Nat)) (Go.Value.int Go.IntKind.u8 x_6)) (Go.Addr.add (Go.Addr.mk (Array.size (Go.World.heap w)) (0 : Nat) Option.none) (1 : Nat)) (Go.Value.int Go.IntKind.i64 x_7)) (Go.Addr.add
 (Go.Addr.mk (Array.size (Go.World.heap w)) (0 : Nat) Option.none) (2 : Nat)) = Bool.false) ∧ ∃ (x_9 : Int), Go.World.cell? (Go.World.setCell (Go.World.setCell (Go.World.setCell (Go.World.alloc w
 (Go.Obj.cells #[Go.Value.int Go.IntKind.u8 (0 : Int), Go.Value.int Go.IntKind.i64 (0 : Int), Go.Value.string (ByteArray.mk #[])] (51 : Nat))) (Go.Addr.add (Go.Addr.mk (Array.size (Go.World.heap w)) (0
 : Nat) Option.none) (0 : Nat)) (Go.Value.int Go.IntKind.u8 x_6)) (Go.Addr.add (Go.Addr.mk (Array.size (Go.World.heap w)) (0 : Nat) Option.none) (1 : Nat)) (Go.Value.int Go.IntKind.i64 x_7))
 (Go.Addr.add (Go.Addr.mk (Array.size (Go.World.heap w)) (0 : Nat) Option.none) (2 : Nat)) (Go.Value.string x_8)) (Go.Addr.add (Go.Addr.mk (Array.size (Go.World.heap w)) (0 : Nat) Option.none) (0 :
 Nat)) = Option.some (Go.Value.int Go.IntKind.u8 x_9) ∧ ∃ (x_10 : Int), Go.World.cell? (Go.World.setCell (Go.World.setCell (Go.World.setCell (Go.World.alloc w (Go.Obj.cells #[Go.Value.int Go.IntKind.u8
 (0 : Int), Go.Value.int Go.IntKind.i64 (0 : Int), Go.Value.string (ByteArray.mk #[])] (51 : Nat))) (Go.Addr.add (Go.Addr.mk (Array.size (Go.World.heap w)) (0 : Nat) Option.none) (0 : Nat))
 (Go.Value.int Go.IntKind.u8 x_6)) (Go.Addr.add (Go.Addr.mk (Array.size (Go.World.heap w)) (0 : Nat) Option.none) (1 : Nat)) (Go.Value.int Go.IntKind.i64 x_7)) (Go.Addr.add (Go.Addr.mk (Array.size
 (Go.World.heap w)) (0 : Nat) Option.none) (2 : Nat)) (Go.Value.string x_8)) (Go.Addr.add (Go.Addr.mk (Array.size (Go.World.heap w)) (0 : Nat) Option.none) (1 : Nat)) = Option.some (Go.Value.int
 Go.IntKind.i64 x_10) ∧ ∃ (x_11 : ByteArray), Go.World.cell? (Go.World.setCell (Go.World.setCell (Go.World.setCell (Go.World.alloc w (Go.Obj.cells #[Go.Value.int Go.IntKind.u8 (0 : Int), Go.Value.int
 Go.IntKind.i64 (0 : Int), Go.Value.string (ByteArray.mk #[])] (51 : Nat))) (Go.Addr.add (Go.Addr.mk (Array.size (Go.World.heap w)) (0 : Nat) Option.none) (0 : Nat)) (Go.Value.int Go.IntKind.u8 x_6))
 (Go.Addr.add (Go.Addr.mk (Array.size (Go.World.heap w)) (0 : Nat) Option.none) (1 : Nat)) (Go.Value.int Go.IntKind.i64 x_7)) (Go.Addr.add (Go.Addr.mk (Array.size (Go.World.heap w)) (0 : Nat)
 Option.none) (2 : Nat)) (Go.Value.string x_8)) (Go.Addr.add (Go.Addr.mk (Array.size (Go.World.heap w)) (0 : Nat) Option.none) (2 : Nat)) = Option.some (Go.Value.string x_11) ∧ Go.Sx.CallsV
 Go.Proofs.Tryd.prog (67 : Nat) #[Go.Value.agg #[Go.Value.int Go.IntKind.u8 x_9, Go.Value.int Go.IntKind.i64 x_10, Go.Value.string x_11]] (Go.World.setCell (Go.World.setCell (Go.World.setCell
 (Go.World.alloc w (Go.Obj.cells #[Go.Value.int Go.IntKind.u8 (0 : Int), Go.Value.int Go.IntKind.i64 (0 : Int), Go.Value.string (ByteArray.mk #[])] (51 : Nat))) (Go.Addr.add (Go.Addr.mk (Array.size
 (Go.World.heap w)) (0 : Nat) Option.none) (0 : Nat)) (Go.Value.int Go.IntKind.u8 x_6)) (Go.Addr.add (Go.Addr.mk (Array.size (Go.World.heap w)) (0 : Nat) Option.none) (1 : Nat)) (Go.Value.int
 Go.IntKind.i64 x_7)) (Go.Addr.add (Go.Addr.mk (Array.size (Go.World.heap w)) (0 : Nat) Option.none) (2 : Nat)) (Go.Value.string x_8)) fun (v : Go.Value) (w' : Go.World) => ∃ (x_12 : Int), v =
 Go.Value.int Go.IntKind.u64 x_12 ∧ Go.Sx.CallsV Go.Proofs.Tryd.prog (65 : Nat) #[Go.Value.slice x x_3 x_4, Go.Value.int Go.IntKind.u64 x_12] w' fun (v : Go.Value) (w' : Go.World) => ∃ (x_13 : Option
 Go.Addr), ∃ (x_14 : Nat), ∃ (x_15 : Nat), v = Go.Value.slice x_13 x_14 x_15 ∧ I x_13 x_14 x_15 (Go.IntKind.wrap Go.IntKind.i64 (x_5 + (1 : Int))) w' ∧ μ x_13 x_14 x_15 (Go.IntKind.wrap Go.IntKind.i64
 (x_5 + (1 : Int))) w' < μ x x_3 x_4 x_5 w else ∃ (I : Option Go.Addr → Nat → Nat → Int → Go.World → Prop), ∃ (μ : Option Go.Addr → Nat → Nat → Int → Go.World → Nat), I x x_3 x_4 (0 : Int) w ∧ ∀ (x :
 Option Go.Addr) (x_6 x_7 : Nat) (x_8 : Int) (w : Go.World), I x x_6 x_7 x_8 w → bif Decidable.decide (x_8 < (↑row_n : Int)) then ∃ (ad : Go.Addr), row_A = Option.some ad ∧ ((0 : Int) ≤ x_8 ∧ x_8 <
 (↑row_n : Int)) ∧ ∃ (x_9 : Int), Go.World.cell? w (Go.Addr.add (Go.Addr.add ad (Int.toNat x_8 * (3 : Nat))) (0 : Nat)) = Option.some (Go.Value.int Go.IntKind.u8 x_9) ∧ ∃ (x_10 : Int), Go.World.cell? w
 (Go.Addr.add (Go.Addr.add ad (Int.toNat x_8 * (3 : Nat))) (1 : Nat)) = Option.some (Go.Value.int Go.IntKind.i64 x_10) ∧ ∃ (x_11 : ByteArray), Go.World.cell? w (Go.Addr.add (Go.Addr.add ad (Int.toNat
 x_8 * (3 : Nat))) (2 : Nat)) = Option.some (Go.Value.string x_11) ∧ (Option.isSome (Go.World.cell? (Go.World.alloc w (Go.Obj.cells #[Go.Value.int Go.IntKind.u8 (0 : Int), Go.Value.int Go.IntKind.i64 (0
 : Int), Go.Value.string (ByteArray.mk #[])] (51 : Nat))) (Go.Addr.add (Go.Addr.mk (Array.size (Go.World.heap w)) (0 : Nat) Option.none) (0 : Nat))) = Bool.true ∧ Go.World.frozen? (Go.World.alloc w
 (Go.Obj.cells #[Go.Value.int Go.IntKind.u8 (0 : Int), Go.Value.int Go.IntKind.i64 (0 : Int), Go.Value.string (ByteArray.mk #[])] (51 : Nat))) (Go.Addr.add (Go.Addr.mk (Array.size (Go.World.heap w)) (0
 : Nat) Option.none) (0 : Nat)) = Bool.false) ∧ (Option.isSome (Go.World.cell? (Go.World.setCell (Go.World.alloc w (Go.Obj.cells #[Go.Value.int Go.IntKind.u8 (0 : Int), Go.Value.int Go.IntKind.i64 (0 :
 Int), Go.Value.string (ByteArray.mk #[])] (51 : Nat))) (Go.Addr.add (Go.Addr.mk (Array.size (Go.World.heap w)) (0 : Nat) Option.none) (0 : Nat)) (Go.Value.int Go.IntKind.u8 x_9)) (Go.Addr.add
 (Go.Addr.mk (Array.size (Go.World.heap w)) (0 : Nat) Option.none) (1 : Nat))) = Bool.true ∧ Go.World.frozen? (Go.World.setCell (Go.World.alloc w (Go.Obj.cells #[Go.Value.int Go.IntKind.u8 (0 : Int),
 Go.Value.int Go.IntKind.i64 (0 : Int), Go.Value.string (ByteArray.mk #[])] (51 : Nat))) (Go.Addr.add (Go.Addr.mk (Array.size (Go.World.heap w)) (0 : Nat) Option.none) (0 : Nat)) (Go.Value.int
 Go.IntKind.u8 x_9)) (Go.Addr.add (Go.Addr.mk (Array.size (Go.World.heap w)) (0 : Nat) Option.none) (1 : Nat)) = Bool.false) ∧ (Option.isSome (Go.World.cell? (Go.World.setCell (Go.World.setCell
 (Go.World.alloc w (Go.Obj.cells #[Go.Value.int Go.IntKind.u8 (0 : Int), Go.Value.int Go.IntKind.i64 (0 : Int), Go.Value.string (ByteArray.mk #[])] (51 : Nat))) (Go.Addr.add (Go.Addr.mk (Array.size
 (Go.World.heap w)) (0 : Nat) Option.none) (0 : Nat)) (Go.Value.int Go.IntKind.u8 x_9)) (Go.Addr.add (Go.Addr.mk (Array.size (Go.World.heap w)) (0 : Nat) Option.none) (1 : Nat)) (Go.Value.int
 Go.IntKind.i64 x_10)) (Go.Addr.add (Go.Addr.mk (Array.size (Go.World.heap w)) (0 : Nat) Option.none) (2 : Nat))) = Bool.true ∧ Go.World.frozen? (Go.World.setCell (Go.World.setCell (Go.World.alloc w
 (Go.Obj.cells #[Go.Value.int Go.IntKind.u8 (0 : Int), Go.Value.int Go.IntKind.i64 (0 : Int), Go.Value.string (ByteArray.mk #[])] (51 : Nat))) (Go.Addr.add (Go.Addr.mk (Array.size (Go.World.heap w)) (0
 : Nat) Option.none) (0 : Nat)) (Go.Value.int Go.IntKind.u8 x_9)) (Go.Addr.add (Go.Addr.mk (Array.size (Go.World.heap w)) (0 : Nat) Option.none) (1 : Nat)) (Go.Value.int Go.IntKind.i64 x_10))
 (Go.Addr.add (Go.Addr.mk (Array.size (Go.World.heap w)) (0 : Nat) Option.none) (2 : Nat)) = Bool.false) ∧ ∃ (x_12 : Int), Go.World.cell? (Go.World.setCell (Go.World.setCell (Go.World.setCell
 (Go.World.alloc w (Go.Obj.cells #[Go.Value.int Go.IntKind.u8 (0 : Int), Go.Value.int Go.IntKind.i64 (0 : Int), Go.Value.string (ByteArray.mk #[])] (51 : Nat))) (Go.Addr.add (Go.Addr.mk (Array.size
 (Go.World.heap w)) (0 : Nat) Option.none) (0 : Nat)) (Go.Value.int Go.IntKind.u8 x_9)) (Go.Addr.add (Go.Addr.mk (Array.size (Go.World.heap w)) (0 : Nat) Option.none) (1 : Nat)) (Go.Value.int
 Go.IntKind.i64 x_10)) (Go.Addr.add (Go.Addr.mk (Array.size (Go.World.heap w)) (0 : Nat) Option.none) (2 : Nat)) (Go.Value.string x_11)) (Go.Addr.add (Go.Addr.mk (Array.size (Go.World.heap w)) (0 : Nat)
 Option.none) (0 : Nat)) = Option.some (Go.Value.int Go.IntKind.u8 x_12) ∧ bif Decidable.decide (x_12 = (1 : Int)) then ∃ (S : Go.World → Prop), S (Go.World.drew (Go.World.setCell (Go.World.setCell
 (Go.World.setCell (Go.World.alloc w (Go.Obj.cells #[Go.Value.int Go.IntKind.u8 (0 : Int), Go.Value.int Go.IntKind.i64 (0 : Int), Go.Value.string (ByteArray.mk #[])] (51 : Nat))) (Go.Addr.add
 (Go.Addr.mk (Array.size (Go.World.heap w)) (0 : Nat) Option.none) (0 : Nat)) (Go.Value.int Go.IntKind.u8 x_9)) (Go.Addr.add (Go.Addr.mk (Array.size (Go.World.heap w)) (0 : Nat) Option.none) (1 : Nat))
 (Go.Value.int Go.IntKind.i64 x_10)) (Go.Addr.add (Go.Addr.mk (Array.size (Go.World.heap w)) (0 : Nat) Option.none) (2 : Nat)) (Go.Value.string x_11))) ∧ ∃ (x_13 : Int), (∀ (u : Go.World), S u →
 Go.World.cell? u (Go.Addr.add (Go.Addr.mk (Array.size (Go.World.heap w)) (0 : Nat) Option.none) (1 : Nat)) = Option.some (Go.Value.int Go.IntKind.i64 x_13)) ∧ ∃ (x_14 : Int), (∀ (u : Go.World), S u →
 Go.World.cell? u (Go.Addr.add (Go.Addr.mk (Array.size (Go.World.heap w)) (0 : Nat) Option.none) (1 : Nat)) = Option.some (Go.Value.int Go.IntKind.i64 x_14)) ∧ Go.Sx.CallsV Go.Proofs.Tryd.prog (69 :
 Nat) #[Go.Value.int Go.IntKind.i64 x_14] (Go.World.drew (Go.World.setCell (Go.World.setCell (Go.World.setCell (Go.World.alloc w (Go.Obj.cells #[Go.Value.int Go.IntKind.u8 (0 : Int), Go.Value.int
 Go.IntKind.i64 (0 : Int), Go.Value.string (ByteArray.mk #[])] (51 : Nat))) (Go.Addr.add (Go.Addr.mk (Array.size (Go.World.heap w)) (0 : Nat) Option.none) (0 : Nat)) (Go.Value.int Go.IntKind.u8 x_9))
 (Go.Addr.add (Go.Addr.mk (Array.size (Go.World.heap w)) (0 : Nat) Option.none) (1 : Nat)) (Go.Value.int Go.IntKind.i64 x_10)) (Go.Addr.add (Go.Addr.mk (Array.size (Go.World.heap w)) (0 : Nat)
 Option.none) (2 : Nat)) (Go.Value.string x_11))) fun (v : Go.Value) (w' : Go.World) => ∃ (x_15 : Int), v = Go.Value.int Go.IntKind.i64 x_15 ∧ ∃ (S' : Go.World → Prop), (∀ (u : Go.World), S' u → S u) ∧
 S' w' ∧ Go.Sx.CallsV Go.Proofs.Tryd.prog (68 : Nat) #[Go.Value.slice x x_6 x_7, Go.Value.int Go.IntKind.u64 (Go.IntKind.wrap Go.IntKind.u64 x_13), Go.Value.int Go.IntKind.i64 x_15] w' fun (v :
 Go.Value) (w' : Go.World) => ∃ (x_16 : Option Go.Addr), ∃ (x_17 : Nat), ∃ (x_18 : Nat), v = Go.Value.slice x_16 x_17 x_18 ∧ ∃ (S'_1 : Go.World → Prop), (∀ (u : Go.World), S'_1 u → S' u) ∧ S'_1 w' ∧ ∃
 (x_19 : ByteArray), Go.World.cell? w' (Go.Addr.add (Go.Addr.mk (Array.size (Go.World.heap w)) (0 : Nat) Option.none) (2 : Nat)) = Option.some (Go.Value.string x_19) ∧ ∃ (x_20 : Option Go.Addr), ∃ (x_21
 : Nat), ∃ (x_22 : Nat), ∃ (w'_1 : Go.World), Go.Sx.RunsTo Go.Proofs.Tryd.prog (Go.Builtin.append_ (Array.mk [(45 : Nat), (9 : Nat)]) (45 : Nat) #[Go.Value.slice x_16 x_17 x_18, Go.Value.string x_19])
 w' (Go.Value.slice x_20 x_21 x_22) w'_1 ∧ I x_20 x_21 x_22 (Go.IntKind.wrap Go.IntKind.i64 (x_8 + (1 : Int))) w'_1 ∧ μ x_20 x_21 x_22 (Go.IntKind.wrap Go.IntKind.i64 (x_8 + (1 : Int))) w'_1 < μ x x_6
 x_7 x_8 w else ∃ (x_13 : ByteArray), Go.World.cell? (Go.World.setCell (Go.World.setCell (Go.World.setCell (Go.World.alloc w (Go.Obj.cells #[Go.Value.int Go.IntKind.u8 (0 : Int), Go.Value.int
 Go.IntKind.i64 (0 : Int), Go.Value.string (ByteArray.mk #[])] (51 : Nat))) (Go.Addr.add (Go.Addr.mk (Array.size (Go.World.heap w)) (0 : Nat) Option.none) (0 : Nat)) (Go.Value.int Go.IntKind.u8 x_9))
 (Go.Addr.add (Go.Addr.mk (Array.size (Go.World.heap w)) (0 : Nat) Option.none) (1 : Nat)) (Go.Value.int Go.IntKind.i64 x_10)) (Go.Addr.add (Go.Addr.mk (Array.size (Go.World.heap w)) (0 : Nat)
 Option.none) (2 : Nat)) (Go.Value.string x_11)) (Go.Addr.add (Go.Addr.mk (Array.size (Go.World.heap w)) (0 : Nat) Option.none) (2 : Nat)) = Option.some (Go.Value.string x_13) ∧ ∃ (x_14 : Option
 Go.Addr), ∃ (x_15 : Nat), ∃ (x_16 : Nat), ∃ (w' : Go.World), Go.Sx.RunsTo Go.Proofs.Tryd.prog (Go.Builtin.append_ (Array.mk [(45 : Nat), (9 : Nat)]) (45 : Nat) #[Go.Value.slice x x_6 x_7,
 Go.Value.string x_13]) (Go.World.setCell (Go.World.setCell (Go.World.setCell (Go.World.alloc w (Go.Obj.cells #[Go.Value.int Go.IntKind.u8 (0 : Int), Go.Value.int Go.IntKind.i64 (0 : Int),
 Go.Value.string (ByteArray.mk #[])] (51 : Nat))) (Go.Addr.add (Go.Addr.mk (Array.size (Go.World.heap w)) (0 : Nat) Option.none) (0 : Nat)) (Go.Value.int Go.IntKind.u8 x_9)) (Go.Addr.add (Go.Addr.mk
 (Array.size (Go.World.heap w)) (0 : Nat) Option.none) (1 : Nat)) (Go.Value.int Go.IntKind.i64 x_10)) (Go.Addr.add (Go.Addr.mk (Array.size (Go.World.heap w)) (0 : Nat) Option.none) (2 : Nat))
 (Go.Value.string x_11)) (Go.Value.slice x_14 x_15 x_16) w' ∧ I x_14 x_15 x_16 (Go.IntKind.wrap Go.IntKind.i64 (x_8 + (1 : Int))) w' ∧ μ x_14 x_15 x_16 (Go.IntKind.wrap Go.IntKind.i64 (x_8 + (1 : Int)))
 w' < μ x x_6 x_7 x_8 w else Go.Sx.CallsV Go.Proofs.Tryd.prog (70 : Nat) #[Go.Value.slice x x_6 x_7] w fun (v : Go.Value) (w' : Go.World) => ∃ (x : Option Go.Addr), ∃ (x_9 : Nat), ∃ (x_10 : Nat), ∃
 (x_11 : Int), v = Go.Value.tuple #[Go.Value.slice x x_9 x_10, Go.Value.int Go.IntKind.i64 x_11] ∧ K (Go.Value.tuple #[Go.Value.slice x x_9 x_10, Go.Value.int Go.IntKind.i64 x_11]) w'
theorem record_Put.eq (row_A : Option Addr) (row_n : Nat) (row_c : Nat) (w : World) (K : Value → World → Prop) : record_Put.W row_A row_n row_c w K = fnW Tryd.prog Tryd.f30 (.seq .auto (.seq .auto (.seq .auto (.seq (.seq .auto (.block (.loop [(5, .one .slc), (21, .one (.int .i64))] .auto))) (.seq (.seq .auto (.block (.loop [(5, .one .slc), (32, .one (.int .i64))] .auto))) .auto))))) [.slice row_A row_n row_c] w K := by kernel_rfl
theorem record_Put.calls (ok : Okay Tryd.prog) {row_A : Option Addr} {row_n : Nat} {row_c : Nat} {w : World} {K : Value → World → Prop} (h : record_Put.W row_A row_n row_c w K) : CallsV Tryd.prog 30 #[.slice row_A row_n row_c] w K :=
  fnW_calls ok Tryd.func30 (an := (.seq .auto (.seq .auto (.seq .auto (.seq (.seq .auto (.block (.loop [(5, .one .slc), (21, .one (.int .i64))] .auto))) (.seq (.seq .auto (.block (.loop [(5, .one .slc), (32, .one (.int .i64))] .auto))) .auto)))))) (args := [.slice row_A row_n row_c]) (by rw [← record_Put.eq]; exact h)
noncomputable def record_sort.W : Int → Int → ByteArray → World → (Value → World → Prop) → Prop := fun (v0 v1 : Int) (v2 : ByteArray) (w : Go.World) (K : Go.Value → Go.World → Prop) => ∃ (x : Int),
 Go.World.cell? (Go.World.alloc w (Go.Obj.cells #[Go.Value.int Go.IntKind.u8 v0, Go.Value.int Go.IntKind.i64 v1, Go.Value.string v2] (51 : Nat))) (Go.Addr.add (Go.Addr.mk (Array.size (Go.World.heap w))
 (0 : Nat) Option.none) (0 : Nat)) = Option.some (Go.Value.int Go.IntKind.u8 x) ∧ bif Decidable.decide (x = (1 : Int)) then ∃ (x : Int), Go.World.cell? (Go.World.alloc w (Go.Obj.cells #[Go.Value.int
 Go.IntKind.u8 v0, Go.Value.int Go.IntKind.i64 v1, Go.Value.string v2] (51 : Nat))) (Go.Addr.add (Go.Addr.mk (Array.size (Go.World.heap w)) (0 : Nat) Option.none) (1 : Nat)) = Option.some (Go.Value.int
 Go.IntKind.i64 x) ∧ Go.Sx.CallsV Go.Proofs.Tryd.prog (69 : Nat) #[Go.Value.int Go.IntKind.i64 x] (Go.World.alloc w (Go.Obj.cells #[Go.Value.int Go.IntKind.u8 v0, Go.Value.int Go.IntKind.i64 v1,
 Go.Value.string v2] (51 : Nat))) fun (v : Go.Value) (w' : Go.World) => ∃ (x : Int), v = Go.Value.int Go.IntKind.i64 x ∧ K (Go.Value.int Go.IntKind.u64 (Go.IntKind.wrap Go.IntKind.u64 x)) w' else bif
 Decidable.decide (x = (3 : Int)) then ∃ (x : ByteArray), Go.World.cell? (Go.World.alloc w (Go.Obj.cells #[Go.Value.int Go.IntKind.u8 v0, Go.Value.int Go.IntKind.i64 v1, Go.Value.string v2] (51 : Nat)))
 (Go.Addr.add (Go.Addr.mk (Array.size (Go.World.heap w)) (0 : Nat) Option.none) (2 : Nat)) = Option.some (Go.Value.string x) ∧ K (Go.Value.int Go.IntKind.u64 (Go.IntKind.wrap Go.IntKind.u64
 (Go.IntKind.wrap Go.IntKind.u64 ((2 : Int) * Go.IntKind.wrap Go.IntKind.u64 (↑(ByteArray.size x) : Int)) + (10 : Int)))) (Go.World.alloc w (Go.Obj.cells #[Go.Value.int Go.IntKind.u8 v0, Go.Value.int
 Go.IntKind.i64 v1, Go.Value.string v2] (51 : Nat))) else bif Decidable.decide (x = (2 : Int)) then ∃ (x : ByteArray), Go.World.cell? (Go.World.alloc w (Go.Obj.cells #[Go.Value.int Go.IntKind.u8 v0,
 Go.Value.int Go.IntKind.i64 v1, Go.Value.string v2] (51 : Nat))) (Go.Addr.add (Go.Addr.mk (Array.size (Go.World.heap w)) (0 : Nat) Option.none) (2 : Nat)) = Option.some (Go.Value.string x) ∧ K
 (Go.Value.int Go.IntKind.u64 (Go.IntKind.wrap Go.IntKind.u64 (Go.IntKind.wrap Go.IntKind.u64 ((2 : Int) * Go.IntKind.wrap Go.IntKind.u64 (↑(ByteArray.size x) : Int)) + (11 : Int)))) (Go.World.alloc w
 (Go.Obj.cells #[Go.Value.int Go.IntKind.u8 v0, Go.Value.int Go.IntKind.i64 v1, Go.Value.string v2] (51 : Nat))) else K (Go.Value.int Go.IntKind.u64 (0 : Int)) (Go.World.alloc w (Go.Obj.cells
 #[Go.Value.int Go.IntKind.u8 v0, Go.Value.int Go.IntKind.i64 v1, Go.Value.string v2] (51 : Nat)))
theorem record_sort.eq (v0 : Int) (v1 : Int) (v2 : ByteArray) (w : World) (K : Value → World → Prop) : record_sort.W v0 v1 v2 w K = fnW Tryd.prog Tryd.f67 .auto [.agg #[.int .u8 v0, .int .i64 v1, .string v2]] w K := by kernel_rfl
theorem record_sort.calls (ok : Okay Tryd.prog) {v0 : Int} {v1 : Int} {v2 : ByteArray} {w : World} {K : Value → World → Prop} (h : record_sort.W v0 v1 v2 w K) : CallsV Tryd.prog 67 #[.agg #[.int .u8 v0, .int .i64 v1, .string v2]] w K :=
  fnW_calls ok Tryd.func67 (an := .auto) (args := [.agg #[.int .u8 v0, .int .i64 v1, .string v2]]) (by rw [← record_sort.eq]; exact h)
noncomputable def record_high.W : Option Addr → Nat → Nat → Int → Int → World → (Value → World → Prop) → Prop := fun (out_A : Option Go.Addr) (out_n out_c : Nat) (n k : Int) (w : Go.World) (K :
 Go.Value → Go.World → Prop) => ∃ (I : Option Go.Addr → Nat → Nat → Int → Go.World → Prop), ∃ (μ : Option Go.Addr → Nat → Nat → Int → Go.World → Nat), I out_A out_n out_c (Go.IntKind.wrap Go.IntKind.i64
 (k - (1 : Int))) w ∧ ∀ (x : Option Go.Addr) (x_1 x_2 : Nat) (x_3 : Int) (w : Go.World), I x x_1 x_2 x_3 w → bif Decidable.decide ((0 : Int) ≤ x_3) then (0 : Int) ≤ Go.IntKind.wrap Go.IntKind.i64 ((8 :
 Int) * x_3) ∧ ∃ (x_4 : Option Go.Addr), ∃ (x_5 : Nat), ∃ (x_6 : Nat), ∃ (w' : Go.World), Go.Sx.RunsTo Go.Proofs.Tryd.prog (Go.Builtin.append_ (Array.mk [(45 : Nat), (45 : Nat)]) (45 : Nat)
 #[Go.Value.slice x x_1 x_2, Go.Value.slice (Option.some (Go.Addr.mk (Array.size (Go.World.heap w)) (0 : Nat) Option.none)) (1 : Nat) (1 : Nat)]) (Go.World.alloc w (Go.Obj.cells #[Go.Value.int
 Go.IntKind.u8 (Go.IntKind.wrap Go.IntKind.u8 (Int.fdiv n ((2 : Int) ^ Min.min (Int.toNat (Go.IntKind.wrap Go.IntKind.i64 ((8 : Int) * x_3))) (64 : Nat))))] (5 : Nat))) (Go.Value.slice x_4 x_5 x_6) w' ∧
 I x_4 x_5 x_6 (Go.IntKind.wrap Go.IntKind.i64 (x_3 - (1 : Int))) w' ∧ μ x_4 x_5 x_6 (Go.IntKind.wrap Go.IntKind.i64 (x_3 - (1 : Int))) w' < μ x x_1 x_2 x_3 w else K (Go.Value.slice x x_1 x_2) w
theorem record_high.eq (out_A : Option Addr) (out_n : Nat) (out_c : Nat) (n : Int) (k : Int) (w : World) (K : Value → World → Prop) : record_high.W out_A out_n out_c n k w K = fnW Tryd.prog Tryd.f68 (.seq .auto (.seq (.seq .auto (.block (.loop [(0, .one .slc), (7, .one (.int .i64))] .auto))) .auto)) [.slice out_A out_n out_c, .int .u64 n, .int .i64 k] w K := by kernel_rfl
theorem record_high.calls (ok : Okay Tryd.prog) {out_A : Option Addr} {out_n : Nat} {out_c : Nat} {n : Int} {k : Int} {w : World} {K : Value → World → Prop} (h : record_high.W out_A out_n out_c n k w K) : CallsV Tryd.prog 68 #[.slice out_A out_n out_c, .int .u64 n, .int .i64 k] w K :=
  fnW_calls ok Tryd.func68 (an := (.seq .auto (.seq (.seq .auto (.block (.loop [(0, .one .slc), (7, .one (.int .i64))] .auto))) .auto))) (args := [.slice out_A out_n out_c, .int .u64 n, .int .i64 k]) (by rw [← record_high.eq]; exact h)
noncomputable def record_wide.W : Int → World → (Value → World → Prop) → Prop := fun (n : Int) (w : Go.World) (K : Go.Value → Go.World → Prop) => ∃ (I : Int → Go.World → Prop), ∃ (μ : Int → Go.World →
 Nat), ((0 : Int) ≤ Go.IntKind.wrap Go.IntKind.i64 ((64 : Int) - Go.IntKind.wrap Go.IntKind.i64 ((8 : Int) * (1 : Int))) ∧ (0 : Int) ≤ Go.IntKind.wrap Go.IntKind.i64 ((64 : Int) - Go.IntKind.wrap
 Go.IntKind.i64 ((8 : Int) * (1 : Int))) ∧ bif !Decidable.decide (Int.fdiv (Go.IntKind.wrap Go.IntKind.i64 (n * (2 : Int) ^ Min.min (Int.toNat (Go.IntKind.wrap Go.IntKind.i64 ((64 : Int) -
 Go.IntKind.wrap Go.IntKind.i64 ((8 : Int) * (1 : Int))))) (64 : Nat))) ((2 : Int) ^ Min.min (Int.toNat (Go.IntKind.wrap Go.IntKind.i64 ((64 : Int) - Go.IntKind.wrap Go.IntKind.i64 ((8 : Int) * (1 :
 Int))))) (64 : Nat)) = n) then I (Go.IntKind.wrap Go.IntKind.i64 ((1 : Int) + (1 : Int))) w else K (Go.Value.int Go.IntKind.i64 (1 : Int)) w) ∧ ∀ (x : Int) (w : Go.World), I x w → bif Decidable.decide
 (x < (8 : Int)) then (0 : Int) ≤ Go.IntKind.wrap Go.IntKind.i64 ((64 : Int) - Go.IntKind.wrap Go.IntKind.i64 ((8 : Int) * x)) ∧ (0 : Int) ≤ Go.IntKind.wrap Go.IntKind.i64 ((64 : Int) - Go.IntKind.wrap
 Go.IntKind.i64 ((8 : Int) * x)) ∧ bif !Decidable.decide (Int.fdiv (Go.IntKind.wrap Go.IntKind.i64 (n * (2 : Int) ^ Min.min (Int.toNat (Go.IntKind.wrap Go.IntKind.i64 ((64 : Int) - Go.IntKind.wrap
 Go.IntKind.i64 ((8 : Int) * x)))) (64 : Nat))) ((2 : Int) ^ Min.min (Int.toNat (Go.IntKind.wrap Go.IntKind.i64 ((64 : Int) - Go.IntKind.wrap Go.IntKind.i64 ((8 : Int) * x)))) (64 : Nat)) = n) then I
 (Go.IntKind.wrap Go.IntKind.i64 (x + (1 : Int))) w ∧ μ (Go.IntKind.wrap Go.IntKind.i64 (x + (1 : Int))) w < μ x w else K (Go.Value.int Go.IntKind.i64 x) w else K (Go.Value.int Go.IntKind.i64 x) w
theorem record_wide.eq (n : Int) (w : World) (K : Value → World → Prop) : record_wide.W n w K = fnW Tryd.prog Tryd.f69 (.seq .auto (.scope 0 [(3, .one (.int .i64))] .auto .auto)) [.int .i64 n] w K := by kernel_rfl
theorem record_wide.calls (ok : Okay Tryd.prog) {n : Int} {w : World} {K : Value → World → Prop} (h : record_wide.W n w K) : CallsV Tryd.prog 69 #[.int .i64 n] w K :=
  fnW_calls ok Tryd.func69 (an := (.seq .auto (.scope 0 [(3, .one (.int .i64))] .auto .auto))) (args := [.int .i64 n]) (by rw [← record_wide.eq]; exact h)
noncomputable def record_bounded.W : Option Addr → Nat → Nat → World → (Value → World → Prop) → Prop := fun (b_A : Option Go.Addr) (b_n b_c : Nat) (w : Go.World) (K : Go.Value → Go.World → Prop) => bif
 Decidable.decide ((1048576 : Int) < (↑b_n : Int)) then K (Go.Value.tuple #[Go.Value.slice Option.none (0 : Nat) (0 : Nat), Go.Value.int Go.IntKind.i64 (3 : Int)]) w else K (Go.Value.tuple
 #[Go.Value.slice b_A b_n b_c, Go.Value.int Go.IntKind.i64 (0 : Int)]) w
theorem record_bounded.eq (b_A : Option Addr) (b_n : Nat) (b_c : Nat) (w : World) (K : Value → World → Prop) : record_bounded.W b_A b_n b_c w K = fnW Tryd.prog Tryd.f70 .auto [.slice b_A b_n b_c] w K := by kernel_rfl
theorem record_bounded.calls (ok : Okay Tryd.prog) {b_A : Option Addr} {b_n : Nat} {b_c : Nat} {w : World} {K : Value → World → Prop} (h : record_bounded.W b_A b_n b_c w K) : CallsV Tryd.prog 70 #[.slice b_A b_n b_c] w K :=
  fnW_calls ok Tryd.func70 (an := .auto) (args := [.slice b_A b_n b_c]) (by rw [← record_bounded.eq]; exact h)
end Go.Proofs.YtaifphjenebgoaaDoor
/- The preconditions of Go functions, printed by a program of this workplace (nests.py); each is proved to be the engine's own. -/
set_option linter.unusedVariables false
set_option maxRecDepth 100000
namespace Go.Proofs.YtaifphjenebgoaaDoor
open Go Go.Sx
noncomputable def record_right.W : Option Addr → Nat → Nat → World → (Value → World → Prop) → Prop := fun (row_A : Option Go.Addr) (row_n row_c : Nat) (w : Go.World) (K : Go.Value → Go.World → Prop) =>
 bif Decidable.decide ((200 : Int) < (↑row_n : Int)) then K (Go.Value.int Go.IntKind.i64 (3 : Int)) w else Go.Sx.CallsV Go.Proofs.Tryd.prog (43 : Nat) #[Go.Value.slice row_A row_n row_c, Go.Value.func
 (Go.Fn.func (86 : Nat)) #[] #[]] w fun (v : Go.Value) (w' : Go.World) => ∃ (x : Bool), v = Go.Value.bool x ∧ bif x then K (Go.Value.int Go.IntKind.i64 (2 : Int)) w' else K (Go.Value.int Go.IntKind.i64
 (0 : Int)) w'
theorem record_right.eq (row_A : Option Addr) (row_n : Nat) (row_c : Nat) (w : World) (K : Value → World → Prop) : record_right.W row_A row_n row_c w K = fnW Tryd.prog Tryd.f66 (.named .auto) [.slice row_A row_n row_c] w K := by kernel_rfl
theorem record_right.calls (ok : Okay Tryd.prog) {row_A : Option Addr} {row_n : Nat} {row_c : Nat} {w : World} {K : Value → World → Prop} (h : record_right.W row_A row_n row_c w K) : CallsV Tryd.prog 66 #[.slice row_A row_n row_c] w K :=
  fnW_calls ok Tryd.func66 (an := (.named .auto)) (args := [.slice row_A row_n row_c]) (by rw [← record_right.eq]; exact h)
noncomputable def record_right_1.W : Int → Int → ByteArray → World → (Value → World → Prop) → Prop := fun (v0 v1 : Int) (v2 : ByteArray) (w : Go.World) (K : Go.Value → Go.World → Prop) => ∀ (g : Nat)
 (w' : Go.World), Go.Sx.Fresh w g w' [Go.Value.int Go.IntKind.u8 v0, Go.Value.int Go.IntKind.i64 v1, Go.Value.string v2] (51 : Nat) → ∃ (x : Int), Go.World.cell? w' (Go.Addr.add (Go.Addr.mk g (0 : Nat)
 Option.none) (0 : Nat)) = Option.some (Go.Value.int Go.IntKind.u8 x) ∧ ∃ (x_1 : Int), Go.World.cell? w' (Go.Addr.add (Go.Addr.mk g (0 : Nat) Option.none) (1 : Nat)) = Option.some (Go.Value.int
 Go.IntKind.i64 x_1) ∧ ∃ (x_2 : ByteArray), Go.World.cell? w' (Go.Addr.add (Go.Addr.mk g (0 : Nat) Option.none) (2 : Nat)) = Option.some (Go.Value.string x_2) ∧ Go.Sx.CallsV Go.Proofs.Tryd.prog (37 :
 Nat) #[Go.Value.agg #[Go.Value.int Go.IntKind.u8 x, Go.Value.int Go.IntKind.i64 x_1, Go.Value.string x_2]] w' fun (v : Go.Value) (w' : Go.World) => ∃ (x : Bool), v = Go.Value.bool x ∧ K (Go.Value.bool
 !x) w'
theorem record_right_1.eq (v0 : Int) (v1 : Int) (v2 : ByteArray) (w : World) (K : Value → World → Prop) : record_right_1.W v0 v1 v2 w K = fnW Tryd.prog Tryd.f86 (.named .auto) [.agg #[.int .u8 v0, .int .i64 v1, .string v2]] w K := by kernel_rfl
theorem record_right_1.calls (ok : Okay Tryd.prog) {v0 : Int} {v1 : Int} {v2 : ByteArray} {w : World} {K : Value → World → Prop} (h : record_right_1.W v0 v1 v2 w K) : CallsV Tryd.prog 86 #[.agg #[.int .u8 v0, .int .i64 v1, .string v2]] w K :=
  fnW_calls ok Tryd.func86 (an := (.named .auto)) (args := [.agg #[.int .u8 v0, .int .i64 v1, .string v2]]) (by rw [← record_right_1.eq]; exact h)
end Go.Proofs.YtaifphjenebgoaaDoor
/- Layer 3, plain: rows as bytes and keys. -/
set_option linter.unusedVariables false
set_option linter.unusedSimpArgs false
namespace R1
open Go.Sx

structure V where
  k : Int
  n : Int
  s : ByteArray

/-- a right value -/
def right (v : V) : Bool :=
  if v.k = 0 then decide (v.n = 0 ∧ v.s.size = 0) else if v.k = 1 then decide (v.s.size = 0) else if v.k = 2 ∨ v.k = 3 then decide (v.n = 0 ∧ v.s.size ≤ 65536) else false
/-- a value that memory can hold -/
def good (v : V) : Prop := (0 ≤ v.k ∧ v.k ≤ 255) ∧ (-9223372036854775808 ≤ v.n ∧ v.n ≤ 9223372036854775807) ∧ v.s.size ≤ Go.maxLen
/-- may it be a row? -/
def rightRow (l : List V) : Int := if 200 < l.length then 3 else if l.all right then 0 else 2

/-! ## numbers -/
def fits (n : Int) (k : Nat) : Bool := decide (-(2 ^ (8 * k - 1) : Nat) ≤ n ∧ n < (2 ^ (8 * k - 1) : Nat))
def wideFrom (n : Int) : Nat → Nat → Nat
  | 0, k => k
  | f + 1, k => if fits n k then k else wideFrom n f (k + 1)
/-- as few bytes as tell a number -/
def wide (n : Int) : Nat := wideFrom n 7 1
theorem wideFrom_le (n : Int) : ∀ f k, k ≤ wideFrom n f k ∧ wideFrom n f k ≤ f + k
  | 0, k => by simp [wideFrom]
  | f + 1, k => by
    have := wideFrom_le n f (k + 1)
    unfold wideFrom; split <;> omega
theorem wide_pos (n : Int) : 1 ≤ wide n := (wideFrom_le n 7 1).1
theorem wide_le (n : Int) : wide n ≤ 8 := (wideFrom_le n 7 1).2
/-- the last k bytes of a number, the highest first -/
def hi (m : Nat) : Nat → List UInt8
  | 0 => []
  | k + 1 => (m / 256 ^ k % 256).toUInt8 :: hi m k
theorem hi_length (m : Nat) : ∀ k, (hi m k).length = k
  | 0 => rfl
  | k + 1 => by simp [hi, hi_length m k]

/-! ## keys -/
def esc : List UInt8 → List UInt8
  | [] => []
  | c :: r => if c = 0 then 0 :: 255 :: esc r else c :: esc r
theorem esc_append : ∀ (a b : List UInt8), esc (a ++ b) = esc a ++ esc b
  | [], b => rfl
  | c :: a, b => by
    rw [List.cons_append, esc, esc, esc_append a b]
    split <;> rfl
theorem esc_length : ∀ (a : List UInt8), (esc a).length ≤ 2 * a.length
  | [] => by simp [esc]
  | c :: a => by have := esc_length a; unfold esc; split <;> simp <;> omega
def kpart (v : V) : List UInt8 :=
  if v.k = 0 then [1] else if v.k = 1 then 2 :: hi (v.n + 9223372036854775808).toNat 8 else (if v.k = 2 then 3 else 4) :: esc (sb v.s) ++ [0, 0]
theorem part_length (v : V) : (kpart v).length ≤ 9 + 2 * v.s.size := by
  unfold kpart
  have := esc_length (sb v.s)
  rw [sb_length] at this
  split
  · simp; omega
  · split
    · simp [hi_length]
    · simp; omega
theorem kpart_pos (v : V) : 0 < (kpart v).length := by
  unfold kpart; split
  · simp
  · split <;> simp
def tn (d : Bool) (l : List UInt8) : List UInt8 := if d then l.map (fun b => ~~~b) else l
theorem tn_length (d : Bool) (l : List UInt8) : (tn d l).length = l.length := by unfold tn; split <;> simp
def key : List V → List Bool → List UInt8
  | v :: vs, d :: ds => tn d (kpart v) ++ key vs ds
  | _, _ => []
def keyR (l : List V) (ds : List Bool) : List UInt8 × Int :=
  if rightRow l ≠ 0 then ([], rightRow l) else if ds.length ≠ l.length then ([], 2) else if 1048576 < (key l ds).length then ([], 3) else (key l ds, 0)
theorem key_append : ∀ (a b : List V) (d e : List Bool), a.length = d.length → key (a ++ b) (d ++ e) = key a d ++ key b e
  | [], b, [], e, _ => rfl
  | v :: a, b, x :: d, e, h => by
    show tn x (kpart v) ++ key (a ++ b) (d ++ e) = _
    rw [key_append a b d e (by simpa using h)]; simp [key]
  | [], _, _ :: _, _, h => by simp at h
  | _ :: _, _, [], _, h => by simp at h
theorem key_snoc (l : List V) (ds : List Bool) (i : Nat) (h : i < l.length) (h2 : i < ds.length) : key (l.take (i + 1)) (ds.take (i + 1)) = key (l.take i) (ds.take i) ++ tn (ds[i]) (kpart l[i]) := by
  rw [List.take_add_one, List.take_add_one, key_append _ _ _ _ (by simp; omega)]
  simp [h, h2, key]
theorem key_le : ∀ (l : List V) (ds : List Bool) (M : Nat), (∀ v ∈ l, v.s.size ≤ M) → (key l ds).length ≤ l.length * (9 + 2 * M)
  | [], _, M, _ => by simp [key]
  | v :: l, [], M, _ => by simp [key]
  | v :: l, d :: ds, M, h => by
    have h1 := key_le l ds M (fun v hv => h v (List.mem_cons.2 (.inr hv)))
    have h2 := part_length v
    have h3 := h v (List.mem_cons.2 (.inl rfl))
    simp only [key, List.length_append, tn_length, List.length_cons, Nat.add_mul, Nat.one_mul]
    omega

/-! ## rows -/
def sort (v : V) : Nat := if v.k = 1 then wide v.n else if v.k = 3 then 2 * v.s.size + 10 else if v.k = 2 then 2 * v.s.size + 11 else 0
def body (v : V) : List UInt8 := (if v.k = 1 then hi (v.n % 18446744073709551616).toNat (wide v.n) else []) ++ sb v.s
theorem right_size {v : V} (h : right v = true) : v.s.size ≤ 65536 := by
  unfold right at h
  split at h
  · have := of_decide_eq_true h; omega
  · split at h
    · have := of_decide_eq_true h; omega
    · split at h
      · have := of_decide_eq_true h; omega
      · cases h
end R1
/- What all texts of a seat stand on: the program is right; tests of strings; values. -/
set_option linter.unusedVariables false
set_option linter.unusedSimpArgs false
namespace Go.Proofs.YtaifphjenebgoaaDoor
open Go Go.Sx R1
theorem okay : Okay Tryd.prog := ⟨by kernel_rfl, by kernel_rfl⟩
theorem brS {l l' : List UInt8} {A B : Prop} (h1 : l = l' → A) (h2 : l ≠ l' → B) : cond (ByteArray.toList ⟨l.toArray⟩ == ByteArray.toList ⟨l'.toArray⟩) A B := by rw [eq_str]; exact brd h1 h2
theorem brnS {l l' : List UInt8} {A B : Prop} (h1 : l ≠ l' → A) (h2 : l = l' → B) : cond (!(ByteArray.toList ⟨l.toArray⟩ == ByteArray.toList ⟨l'.toArray⟩)) A B := by rw [eq_str]; exact brn h1 h2
/-- a value's cells -/
def vc (v : V) : List Value := [.int .u8 v.k, .int .i64 v.n, .string v.s]
def KV : Kd V := ⟨3, fun _ _ a cs => cs = vc a, fun h => by simp [h, vc], fun h _ => h⟩
theorem KV_pos : 0 < KV.size := by decide
theorem KV_one : ∀ (Ω : Nat → Prop) (w : World) a cs, KV.rep Ω w a cs → ∀ v ∈ cs, v.oneCell' = true := by
  intro Ω w a cs h v hv
  have h : cs = vc a := h
  subst h
  simp [vc] at hv
  rcases hv with rfl | rfl | rfl <;> rfl
def V0 : V := ⟨0, 0, ByteArray.empty⟩
end Go.Proofs.YtaifphjenebgoaaDoor
/- Layer 1, plain: numbers as bytes. -/
set_option linter.unusedVariables false
set_option linter.unusedSimpArgs false
namespace B1

/-- the k-th digit -/
def dig (m k : Nat) : Nat := m / 128 ^ k % 128
theorem dig_lt (m k : Nat) : dig m k < 128 := Nat.mod_lt _ (by decide)
theorem dig_zero (m : Nat) : dig m 0 = m % 128 := by simp [dig]
theorem dig_succ (m k : Nat) : dig m (k + 1) = dig (m / 128) k := by
  unfold dig
  rw [Nat.pow_succ, Nat.mul_comm, Nat.div_div_eq_div_mul]
/-- a number's bytes -/
def enc (m : Nat) : List UInt8 :=
  if h : m < 128 then [m.toUInt8] else (m % 128 + 128).toUInt8 :: enc (m / 128)
termination_by m
decreasing_by omega
theorem enc_lt {m : Nat} (h : m < 128) : enc m = [m.toUInt8] := by rw [enc]; simp [h]
theorem enc_ge {m : Nat} (h : 128 ≤ m) : enc m = (m % 128 + 128).toUInt8 :: enc (m / 128) := by rw [enc]; simp [Nat.not_lt.2 h]
theorem enc_ne (m : Nat) : enc m ≠ [] := by rw [enc]; split <;> simp
theorem enc_length_pos (m : Nat) : 0 < (enc m).length := List.length_pos_iff.2 (enc_ne m)
/-- the last digit that is not 0, among the first k -/
def top (m : Nat) : Nat → Nat
  | 0 => 0
  | k + 1 => if 0 < dig m k then k else top m k
theorem top_le (m : Nat) : ∀ k, top m k ≤ k - 1
  | 0 => by simp [top]
  | k + 1 => by unfold top; have := top_le m k; split <;> omega
theorem top_small {m : Nat} (h : m < 128) : ∀ k, top m k = 0
  | 0 => rfl
  | k + 1 => by
    unfold top
    cases k with
    | zero => simp [top]
    | succ j =>
      have : dig m (j + 1) = 0 := by rw [dig_succ, Nat.div_eq_of_lt h]; simp [dig]
      rw [if_neg (by omega), top_small h]
theorem top_big {m : Nat} (h : 128 ≤ m) : ∀ k, m < 128 ^ (k + 1) → top m (k + 1) = top (m / 128) k + 1
  | 0, hk => by simp at hk; omega
  | k + 1, hk => by
    have hd : m / 128 < 128 ^ (k + 1) := by rw [Nat.div_lt_iff_lt_mul (by decide), ← Nat.pow_succ]; exact hk
    unfold top
    rw [dig_succ]
    by_cases hp : 0 < dig (m / 128) k
    · rw [if_pos hp]
      cases k <;> rw [if_pos hp]
    · rw [if_neg hp, if_neg hp]
      by_cases hs : m < 128 ^ (k + 1)
      · exact top_big h k hs
      · exfalso
        apply hp
        unfold dig
        have h1 : m / 128 / 128 ^ k = m / 128 ^ (k + 1) := by rw [Nat.div_div_eq_div_mul, Nat.pow_succ, Nat.mul_comm]
        rw [h1]
        have h2 : 0 < m / 128 ^ (k + 1) := Nat.div_pos (Nat.le_of_not_lt hs) (Nat.pow_pos (by decide))
        have h3 : m / 128 ^ (k + 1) < 128 := by rw [Nat.div_lt_iff_lt_mul (Nat.pow_pos (by decide)), Nat.mul_comm, ← Nat.pow_succ]; exact hk
        rw [Nat.mod_eq_of_lt h3]
        exact h2
theorem enc_top : ∀ (k m : Nat), m < 128 ^ k → 0 < k → enc m = (List.range (top m k)).map (fun j => (dig m j + 128).toUInt8) ++ [(dig m (top m k)).toUInt8] := by
  intro k
  induction k with
  | zero => intro m _ h; omega
  | succ k ih =>
    intro m hm _
    by_cases h : m < 128
    · rw [enc_lt h, top_small h, dig_zero, Nat.mod_eq_of_lt h]; rfl
    · have h' : 128 ≤ m := by omega
      cases k with
      | zero => simp at hm; omega
      | succ k =>
        have hd : m / 128 < 128 ^ (k + 1) := by rw [Nat.div_lt_iff_lt_mul (by decide), ← Nat.pow_succ]; exact hm
        rw [enc_ge h', ih (m / 128) hd (by omega), top_big h' (k + 1) hm, List.range_succ_eq_map]
        simp only [List.map_cons, List.map_map, List.cons_append, dig_zero, dig_succ, Function.comp_def]
theorem enc_length_le {m : Nat} : ∀ {k : Nat}, m < 128 ^ k → 0 < k → (enc m).length ≤ k := by
  intro k h hk
  rw [enc_top k m h hk]
  have := top_le m k
  simp; omega
theorem enc_le_ten {m : Nat} (h : m < 2 ^ 64) : (enc m).length ≤ 10 :=
  enc_length_le (k := 10) (Nat.lt_trans h (by decide)) (by decide)

/-! ## reading -/
inductive Dec where
  | ok (n used : Nat)
  | short
  | bad
def Dec.up (x : Nat) : Dec → Dec
  | .ok n u => .ok (128 * n + x) (u + 1)
  | .short => .short
  | .bad => .bad
/-- k digits are read already -/
def dec : Nat → List UInt8 → Dec
  | _, [] => .short
  | k, c :: r =>
    if k < 9 ∧ 128 ≤ c.toNat then (dec (k + 1) r).up (c.toNat - 128)
    else if (0 < k ∧ c.toNat = 0) ∨ (k = 9 ∧ 2 ≤ c.toNat) then .bad
    else .ok c.toNat 1

/-- how many bytes from 128 on stand ahead -/
def scan : Nat → List UInt8 → Nat
  | _, [] => 0
  | k, c :: r => if k < 9 ∧ 128 ≤ c.toNat then scan (k + 1) r + 1 else 0
/-- the number that e bytes and the next one say -/
def vt : Nat → List UInt8 → Nat
  | _, [] => 0
  | 0, c :: _ => c.toNat
  | e + 1, c :: r => 128 * vt e r + (c.toNat - 128)
theorem scan_le : ∀ (l : List UInt8) (k : Nat), scan k l ≤ l.length
  | [], k => by simp [scan]
  | c :: r, k => by unfold scan; have := scan_le r (k + 1); split <;> simp <;> omega
theorem scan_nine : ∀ (l : List UInt8) (k : Nat), k ≤ 9 → k + scan k l ≤ 9
  | [], k, h => by simp [scan]; omega
  | c :: r, k, h => by
    unfold scan
    split
    · have := scan_nine r (k + 1) (by omega); omega
    · omega
theorem dec_eq : ∀ (l : List UInt8) (k : Nat), dec k l = if scan k l < l.length then
      (if (0 < k + scan k l ∧ (l.getD (scan k l) 0).toNat = 0) ∨ (k + scan k l = 9 ∧ 2 ≤ (l.getD (scan k l) 0).toNat) then .bad else .ok (vt (scan k l) l) (scan k l + 1)) else .short
  | [], k => by simp [dec]
  | c :: r, k => by
    by_cases hc : k < 9 ∧ 128 ≤ c.toNat
    · have hs : scan k (c :: r) = scan (k + 1) r + 1 := by rw [scan, if_pos hc]
      rw [dec, if_pos hc, dec_eq r (k + 1), hs]
      generalize scan (k + 1) r = s
      have e1 : k + 1 + s = k + (s + 1) := by omega
      have e2 : (s + 1 < (c :: r).length) = (s < r.length) := by simp
      have e3 : (c :: r).getD (s + 1) 0 = r.getD s 0 := by simp [List.getD]
      rw [e1, e3]
      by_cases hlt : s < r.length
      · rw [if_pos hlt, if_pos (show s + 1 < (c :: r).length by simpa using hlt)]
        by_cases hb : (0 < k + (s + 1) ∧ (r.getD s 0).toNat = 0) ∨ (k + (s + 1) = 9 ∧ 2 ≤ (r.getD s 0).toNat)
        · rw [if_pos hb, if_pos hb]; exact rfl
        · rw [if_neg hb, if_neg hb]; exact rfl
      · rw [if_neg hlt, if_neg (show ¬ s + 1 < (c :: r).length by simpa using hlt)]; exact rfl
    · have hs : scan k (c :: r) = 0 := by rw [scan, if_neg hc]
      rw [dec, if_neg hc, hs]
      rw [if_pos (show 0 < (c :: r).length by simp)]
      exact rfl
theorem vt_lt : ∀ (e : Nat) (l : List UInt8) (M : Nat), e < l.length → (l.getD e 0).toNat ≤ M → vt e l < (M + 1) * 128 ^ e
  | _, [], M, h, _ => absurd h (Nat.not_lt_zero _)
  | 0, c :: r, M, h, hM => by
    have hM' : c.toNat ≤ M := hM
    show c.toNat < (M + 1) * 1
    omega
  | e + 1, c :: r, M, h, hM => by
    have ih := vt_lt e r M (Nat.lt_of_succ_lt_succ h) hM
    have hc : c.toNat < 256 := c.toNat_lt
    show 128 * vt e r + (c.toNat - 128) < (M + 1) * (128 ^ e * 128)
    rw [← Nat.mul_assoc]
    omega
theorem vt_lt_u64 {l : List UInt8} (h : scan 0 l < l.length) (hb : ¬ (scan 0 l = 9 ∧ 2 ≤ (l.getD (scan 0 l) 0).toNat)) : vt (scan 0 l) l < 18446744073709551616 := by
  have h9 := scan_nine l 0 (by omega)
  generalize scan 0 l = e at *
  by_cases e9 : e = 9
  · subst e9
    have hlt := vt_lt 9 l 1 h (by have := fun h2 => hb ⟨rfl, h2⟩; omega)
    exact Nat.lt_of_lt_of_le hlt (by decide)
  · have hlt := vt_lt e l 255 h (by have := (l.getD e 0).toNat_lt; omega)
    have : (255 + 1) * 128 ^ e ≤ (255 + 1) * 128 ^ 8 := Nat.mul_le_mul_left _ (Nat.pow_le_pow_right (by decide) (by omega))
    exact Nat.lt_of_lt_of_le hlt (Nat.le_trans this (by decide))
theorem getD_drop {α : Type} (l : List α) (i j : Nat) (d : α) : (l.drop i).getD j d = l.getD (i + j) d := by simp [List.getD, List.getElem?_drop]
theorem drop_getD (l : List UInt8) (i : Nat) (h : i < l.length) : l.drop i = l.getD i 0 :: l.drop (i + 1) := by
  rw [List.drop_eq_getElem_cons h]; simp [List.getD, h]
theorem vt_drop (i e : Nat) (l : List UInt8) (h : i < l.length) (hi : i < e) : vt (e - i) (l.drop i) = 128 * vt (e - (i + 1)) (l.drop (i + 1)) + ((l.getD i 0).toNat - 128) := by
  rw [drop_getD l i h, show e - i = (e - (i + 1)) + 1 by omega]
  exact rfl
theorem vt_mono (e : Nat) (l : List UInt8) : ∀ i, i ≤ e → i ≤ l.length → vt (e - i) (l.drop i) ≤ vt e l
  | 0, _, _ => by simp
  | i + 1, h, h' => by
    have h1 := vt_mono e l i (by omega) (by omega)
    rw [vt_drop i e l (by omega) (by omega)] at h1
    omega
theorem vt_zero (l : List UInt8) (h : 0 < l.length) : vt 0 l = (l.getD 0 0).toNat := by
  cases l with
  | nil => simp at h
  | cons c r => rfl
theorem scan_ge : ∀ (l : List UInt8) (k i : Nat), i < scan k l → 128 ≤ (l.getD i 0).toNat
  | [], k, i, h => by simp [scan] at h
  | c :: r, k, i, h => by
    by_cases hc : k < 9 ∧ 128 ≤ c.toNat
    · rw [scan, if_pos hc] at h
      cases i with
      | zero => exact hc.2
      | succ i => exact scan_ge r (k + 1) i (by omega)
    · rw [scan, if_neg hc] at h; omega
/-- the scan stops where it is said: the bytes ahead are great, and the next one is not, or nine are read, or there is none -/
theorem scan_unique : ∀ (l : List UInt8) (k e : Nat), k + e ≤ 9 → e ≤ l.length → (∀ i, i < e → 128 ≤ (l.getD i 0).toNat) → (e = l.length ∨ k + e = 9 ∨ (l.getD e 0).toNat < 128) → scan k l = e
  | [], k, e, _, he, _, _ => by simp at he; simp [scan, he]
  | c :: r, k, e, h9, he, hge, hst => by
    cases e with
    | zero =>
      rw [scan, if_neg]
      intro hc
      rcases hst with h | h | h
      · simp at h
      · omega
      · have h : c.toNat < 128 := h
        omega
    | succ e =>
      have h0 : 128 ≤ c.toNat := hge 0 (by omega)
      rw [scan, if_pos ⟨by omega, h0⟩]
      rw [scan_unique r (k + 1) e (by omega) (by simpa using he) (fun i hi => hge (i + 1) (by omega)) (by
        rcases hst with h | h | h
        · left; simpa using h
        · right; left; omega
        · right; right; exact h)]

def Dec.at (a : Int) : Dec → Nat × Int × Int
  | .ok n u => (n, a + u, 0)
  | .short => (0, 0, 11)
  | .bad => (0, 0, 10)
/-- GetUint -/
def getU (l : List UInt8) (at_ : Int) : Nat × Int × Int :=
  if at_ < 0 ∨ (l.length : Int) < at_ then (0, 0, 2) else (dec 0 (l.drop at_.toNat)).at at_

theorem toUInt8_toNat {n : Nat} (h : n < 256) : (n.toUInt8).toNat = n := by
  simp [Nat.toUInt8]; omega

/-! ## what is written is read -/
theorem dec_enc : ∀ (m k : Nat) (r : List UInt8), k ≤ 9 → m < 128 ^ (9 - k) * 2 → (0 < k → 0 < m) → dec k (enc m ++ r) = .ok m (enc m).length := by
  intro m
  induction m using Nat.strongRecOn with
  | ind m ih =>
    intro k r hk hm hpos
    by_cases h : m < 128
    · rw [enc_lt h]
      have ht : (m.toUInt8).toNat = m := toUInt8_toNat (by omega)
      show dec k (m.toUInt8 :: r) = _
      rw [dec, ht, if_neg (by omega), if_neg]
      · rfl
      · rintro (⟨h1, h2⟩ | ⟨h1, h2⟩)
        · have := hpos h1; omega
        · subst h1; simp at hm; omega
    · have h' : 128 ≤ m := by omega
      have hk9 : k < 9 := by
        rcases Nat.lt_or_ge k 9 with h | h
        · exact h
        · have : k = 9 := by omega
          subst this; simp at hm; omega
      rw [enc_ge h']
      have ht : ((m % 128 + 128).toUInt8).toNat = m % 128 + 128 := toUInt8_toNat (by omega)
      show dec k ((m % 128 + 128).toUInt8 :: (enc (m / 128) ++ r)) = _
      have hd : m / 128 < 128 ^ (9 - (k + 1)) * 2 := by
        rw [Nat.div_lt_iff_lt_mul (by decide), Nat.mul_right_comm, ← Nat.pow_succ, show (9 - (k + 1)).succ = 9 - k by omega]; exact hm
      rw [dec, ht, if_pos ⟨hk9, by omega⟩, ih (m / 128) (by omega) (k + 1) r (by omega) hd (by omega)]
      show Dec.ok _ _ = Dec.ok _ _
      rw [show 128 * (m / 128) + (m % 128 + 128 - 128) = m by omega]
      rfl
theorem dec_enc_cut : ∀ (m k j : Nat), k ≤ 9 → m < 128 ^ (9 - k) * 2 → j < (enc m).length → dec k ((enc m).take j) = .short := by
  intro m
  induction m using Nat.strongRecOn with
  | ind m ih =>
    intro k j hk hm hj
    cases j with
    | zero => rw [List.take_zero]; rfl
    | succ j =>
      by_cases h : m < 128
      · rw [enc_lt h] at hj; simp at hj
      · have h' : 128 ≤ m := by omega
        have hk9 : k < 9 := by
          rcases Nat.lt_or_ge k 9 with h | h
          · exact h
          · have : k = 9 := by omega
            subst this; simp at hm; omega
        rw [enc_ge h'] at hj ⊢
        have ht : ((m % 128 + 128).toUInt8).toNat = m % 128 + 128 := toUInt8_toNat (by omega)
        have hd : m / 128 < 128 ^ (9 - (k + 1)) * 2 := by
          rw [Nat.div_lt_iff_lt_mul (by decide), Nat.mul_right_comm, ← Nat.pow_succ, show (9 - (k + 1)).succ = 9 - k by omega]; exact hm
        show dec k ((m % 128 + 128).toUInt8 :: (enc (m / 128)).take j) = _
        rw [dec, ht, if_pos ⟨hk9, by omega⟩, ih (m / 128) (by omega) (k + 1) j (by omega) hd (by simpa using hj)]
        rfl
theorem lim64 {m : Nat} (h : m < 18446744073709551616) : m < 128 ^ (9 - 0) * 2 := Nat.lt_of_lt_of_le h (by decide)
theorem getU_enc (pre : List UInt8) (m : Nat) (r : List UInt8) (hm : m < 18446744073709551616) : getU (pre ++ (enc m ++ r)) (pre.length : Int) = (m, ((pre.length + (enc m).length : Nat) : Int), 0) := by
  rw [getU, if_neg (by simp; omega), Int.toNat_natCast, List.drop_left, dec_enc m 0 r (by omega) (lim64 hm) (by omega)]
  simp [Dec.at]
theorem getU_enc0 (m : Nat) (hm : m < 18446744073709551616) : getU (enc m) 0 = (m, ((enc m).length : Int), 0) := by
  have := getU_enc [] m [] hm
  simpa using this
theorem getU_cut (m j : Nat) (hm : m < 18446744073709551616) (hj : j < (enc m).length) : getU ((enc m).take j) 0 = (0, 0, 11) := by
  rw [getU, if_neg (by simp), show (0 : Int).toNat = 0 from rfl, List.drop_zero, dec_enc_cut m 0 j (by omega) (lim64 hm) hj]
  rfl

/-! ## order -/
theorem enc_len_iff : ∀ (k n : Nat), k < (enc n).length ↔ (k = 0 ∨ 128 ^ k ≤ n)
  | 0, n => by simp [enc_length_pos]
  | k + 1, n => by
    by_cases h : n < 128
    · rw [enc_lt h]
      have : 128 ^ 1 ≤ 128 ^ (k + 1) := Nat.pow_le_pow_right (by decide) (by omega)
      constructor
      · intro h; simp at h
      · rintro (h1 | h1) <;> omega
    · have h' : 128 ≤ n := by omega
      rw [enc_ge h', List.length_cons, Nat.add_lt_add_iff_right, enc_len_iff k (n / 128), Nat.pow_succ, Nat.le_div_iff_mul_le (by decide)]
      constructor
      · rintro (rfl | h1)
        · right; simpa using h'
        · exact .inr h1
      · rintro (h1 | h1)
        · omega
        · exact .inr h1
theorem enc_at : ∀ (k n : Nat), k < (enc n).length → ((enc n).getD k 0).toNat = dig n k + (if k + 1 < (enc n).length then 128 else 0)
  | k, n, hk => by
    by_cases h : n < 128
    · rw [enc_lt h] at hk ⊢
      have : k = 0 := by simpa using hk
      subst this
      show (n.toUInt8).toNat = _
      rw [toUInt8_toNat (by omega), dig_zero, Nat.mod_eq_of_lt h]; rfl
    · have h' : 128 ≤ n := by omega
      rw [enc_ge h'] at hk ⊢
      match k, hk with
      | 0, hk =>
        show ((n % 128 + 128).toUInt8).toNat = _
        have := enc_length_pos (n / 128)
        rw [toUInt8_toNat (by omega), dig_zero, if_pos (by simpa using this)]
      | k + 1, hk =>
        show ((enc (n / 128)).getD k 0).toNat = _
        rw [enc_at k (n / 128) (by simpa using hk), dig_succ, List.length_cons]
        congr 1
        by_cases hc : k + 1 < (enc (n / 128)).length
        · rw [if_pos hc, if_pos (by omega)]
        · rw [if_neg hc, if_neg (by omega)]
theorem dig_step (n k : Nat) : n / 128 ^ k = 128 * (n / 128 ^ (k + 1)) + dig n k := by
  rw [Nat.pow_succ, ← Nat.div_div_eq_div_mul]; unfold dig; omega
theorem div_lt {n m p : Nat} (h : n / p < m / p) : n < m := by
  rcases Nat.lt_or_ge n m with h1 | h1
  · exact h1
  · exact absurd (Nat.div_le_div_right (c := p) h1) (Nat.not_le.2 h)

/-! ## what is read is as it would be written -/
/-- bytes below 128 -/
def low (l : List UInt8) : Nat := l.countP fun c => decide (c.toNat < 128)
theorem low_append (a b : List UInt8) : low (a ++ b) = low a + low b := List.countP_append
theorem dec_ok : ∀ (l : List UInt8) (k n u : Nat), k ≤ 9 → dec k l = .ok n u → 0 < u ∧ u ≤ l.length ∧ l.take u = enc n ∧ (0 < k → 0 < n) ∧ low (l.take u) = 1
  | [], k, n, u, hk, h => by simp [dec] at h
  | c :: r, k, n, u, hk, h => by
    have hc256 := c.toNat_lt
    by_cases hc : k < 9 ∧ 128 ≤ c.toNat
    · rw [dec, if_pos hc] at h
      cases hd : dec (k + 1) r with
      | ok n' u' =>
        rw [hd] at h
        injection h with h1 h2
        subst h1 h2
        obtain ⟨i1, i2, i3, i4, i5⟩ := dec_ok r (k + 1) n' u' (by omega) hd
        have hn := i4 (by omega)
        refine ⟨by omega, by simp; omega, ?_, fun _ => by omega, ?_⟩
        · rw [enc_ge (by omega), List.take_succ_cons, i3, show (128 * n' + (c.toNat - 128)) / 128 = n' by omega, show (128 * n' + (c.toNat - 128)) % 128 + 128 = c.toNat by omega]
          simp
        · rw [List.take_succ_cons]
          show low ([c] ++ r.take u') = 1
          rw [low_append, i5]
          simp [low]; omega
      | short => rw [hd] at h; cases h
      | bad => rw [hd] at h; cases h
    · rw [dec, if_neg hc] at h
      split at h
      · cases h
      · rename_i hb
        injection h with h1 h2
        subst h1 h2
        refine ⟨by omega, by simp, ?_, fun _ => by omega, ?_⟩
        · rw [enc_lt (by omega)]; simp
        · simp [low]; omega
theorem dec_short : ∀ (l : List UInt8) (k : Nat), k ≤ 9 → dec k l = .short → l.length + k ≤ 9
  | [], k, hk, h => by simpa using hk
  | c :: r, k, hk, h => by
    by_cases hc : k < 9 ∧ 128 ≤ c.toNat
    · rw [dec, if_pos hc] at h
      cases hd : dec (k + 1) r with
      | ok n' u' => rw [hd] at h; cases h
      | bad => rw [hd] at h; cases h
      | short =>
        have := dec_short r (k + 1) (by omega) hd
        simp; omega
    · rw [dec, if_neg hc] at h
      split at h <;> cases h
theorem low_snoc (l : List UInt8) (i : Nat) (h : i < l.length) : low (l.take (i + 1)) = low (l.take i) + if (l.getD i 0).toNat < 128 then 1 else 0 := by
  have : l.take (i + 1) = l.take i ++ [l.getD i 0] := by rw [List.take_add_one]; simp [List.getD, h]
  rw [this, low_append]
  congr 1
  simp [low, List.countP_cons]
theorem low_le (l : List UInt8) : low l ≤ l.length := List.countP_le_length
end B1
/- Layer 1 (bytes): what each Go function of the layer does. -/
set_option linter.unusedVariables false
set_option linter.unusedSimpArgs false
namespace Go.Proofs.YtaifphjenebgoaaDoor
open Go Go.Sx
theorem slB : SlT Tryd.prog 45 5 1 1 [.int .u8 0] := ⟨by kernel_rfl, ⟨Tryd.t5, by kernel_rfl, by kernel_rfl, by kernel_rfl, .int .u8 0, by kernel_rfl, by kernel_rfl⟩, rfl, by decide⟩

theorem digit_spec (n k : Nat) (hn : n < 2 ^ 64) (hk : k < 10) (w : World) : CallsV Tryd.prog 85 #[.int .u64 n, .int .i64 k] w fun v w' => v = .int .u8 (B1.dig n k : Nat) ∧ w' = w := by
  refine bytes_digit.calls okay ?_
  unfold bytes_digit.W
  have h7 : IntKind.i64.wrap ((7 : Int) * k) = ((7 * k : Nat) : Int) := by rw [wi _ (by omega) (by omega)]; simp
  have hm : min (7 * k) 64 = 7 * k := by omega
  have hp : (2 : Nat) ^ (7 * k) = 128 ^ k := by rw [Nat.pow_mul]
  refine ⟨by rw [h7]; omega, by decide, ?_, rfl⟩
  rw [h7, Int.toNat_natCast, hm, show ((2 : Int) ^ (7 * k)) = ((128 ^ k : Nat) : Int) by rw [← hp]; simp, Int.fdiv_eq_ediv_of_nonneg _ (Int.natCast_nonneg _), ← Int.natCast_ediv,
    Int.tmod_eq_emod_of_nonneg (Int.natCast_nonneg _), show (128 : Int) = ((128 : Nat) : Int) from rfl, ← Int.natCast_emod, w8 _ (by omega) (by have := Nat.mod_lt (n / 128 ^ k) (show 0 < 128 by decide); omega)]
  rfl

theorem slice_eq {A : Option Addr} {n m c : Nat} (h : n = m) : Value.slice A n c = .slice A m c := by rw [h]

/-- the bytes written while the first k digits are -/
def pre (m k : Nat) : List UInt8 := (List.range k).map fun j => (B1.dig m j + 128).toUInt8
theorem pre_succ (m k : Nat) : pre m (k + 1) = pre m k ++ [(B1.dig m k + 128).toUInt8] := by simp [pre, List.range_succ]
theorem pre_len (m k : Nat) : (pre m k).length = k := by simp [pre]

theorem appendB {w : World} {A : Option Addr} {c : Nat} {l : List UInt8} (h : OwnB w A c l) (b : UInt8) (hb : l.length + 1 ≤ 140737488355328) (e : TypeId) (ty : TypeId) :
    ∃ A' c' w', RunsTo Tryd.prog (Builtin.append_ #[45, 45] ty #[.slice A l.length c, .slice (some ⟨w.heap.size, 0, none⟩) 1 1]) (w.alloc (.cells #[u8 b] e)) (.slice A' (l.length + 1) c') w' ∧ OwnB w' A' c' (l ++ [b]) ∧ Grew A A' w w' ∧ A' ≠ none := by
  obtain ⟨A', c', w', hr, ho, hf, hs, hn⟩ := append_one (ty := ty) slB h (cs := [u8 b]) rfl (by simp [u8, Value.oneCell']) (e' := e) (by simp [maxLen]; omega) (by omega)
  exact ⟨A', c', w', hr, by unfold OwnB; simpa using ho, ⟨hf, hs⟩, hn⟩

theorem Uint_spec {w : World} {A : Option Addr} {c : Nat} {l : List UInt8} (h : OwnB w A c l) (m : Nat) (hm : m < 2 ^ 64) (hb : l.length + 10 ≤ 140737488355328) :
    CallsV Tryd.prog 65 #[.slice A l.length c, .int .u64 m] w fun v w' => ∃ A' c', v = .slice A' (l ++ B1.enc m).length c' ∧ OwnB w' A' c' (l ++ B1.enc m) ∧ Grew A A' w w' ∧ A' ≠ none := by
  refine bytes_Uint.calls okay ?_
  unfold bytes_Uint.W
  refine ⟨fun t k w1 => ∃ j : Nat, j ≤ 10 ∧ k = (j : Int) ∧ t = (B1.top m j : Nat) ∧ w = w1, fun t k _ => (10 - k).toNat, ⟨0, by omega, rfl, rfl, rfl⟩, ?_⟩
  rintro _ _ _ ⟨j, hj, rfl, rfl, rfl⟩
  refine brd (fun h10 => ?_) (fun h10 => ?_)
  · refine (digit_spec m j hm (by omega) _).same ⟨_, rfl, ?_⟩
    have hw : IntKind.i64.wrap ((j : Int) + 1) = ((j + 1 : Nat) : Int) := by rw [wi _ (by omega) (by omega)]; simp
    rw [hw]
    refine brd (fun h0 => ?_) (fun h0 => ?_)
    · exact ⟨⟨j + 1, by omega, rfl, by rw [B1.top, if_pos (by omega)], rfl⟩, by dsimp only; omega⟩
    · exact ⟨⟨j + 1, by omega, rfl, by rw [B1.top, if_neg (by omega)], rfl⟩, by dsimp only; omega⟩
  · obtain rfl : j = 10 := by omega
    have ht : B1.top m 10 ≤ 9 := B1.top_le m 10
    have henc : B1.enc m = pre m (B1.top m 10) ++ [(B1.dig m (B1.top m 10)).toUInt8] := B1.enc_top 10 m (Nat.lt_trans hm (by decide)) (by decide)
    refine ⟨fun A1 n1 c1 k w1 => ∃ j : Nat, j ≤ B1.top m 10 ∧ k = (j : Int) ∧ n1 = (l ++ pre m j).length ∧ OwnB w1 A1 c1 (l ++ pre m j) ∧ Grew A A1 w w1, fun _ _ _ k _ => (10 - k).toNat,
      ⟨0, by omega, rfl, by simp [pre], by simpa [pre] using h, .refl _ _⟩, ?_⟩
    rintro A1 _ c1 _ w1 ⟨j, hj, rfl, rfl, ho, hg⟩
    have hd := B1.dig_lt m j
    have hlen : (l ++ pre m j).length = l.length + j := by simp [pre_len]
    refine brd (fun hlt => ?_) (fun hlt => ?_)
    · refine (digit_spec m j hm (by omega) _).same ⟨_, rfl, ?_⟩
      have hv : IntKind.u8.wrap (((B1.dig m j : Nat) : Int) + 128) = ((B1.dig m j + 128 : Nat) : Int) := by rw [w8 _ (by omega) (by omega)]; simp
      rw [hv, toUInt8_int (by omega)]
      obtain ⟨A2, c2, w2, hr, ho2, hg2, _⟩ := appendB ho (B1.dig m j + 128).toUInt8 (by omega) 5 45
      have hw : IntKind.i64.wrap ((j : Int) + 1) = ((j + 1 : Nat) : Int) := by rw [wi _ (by omega) (by omega)]; simp
      refine ⟨A2, _, c2, w2, hr, ?_⟩
      rw [hw]
      refine ⟨⟨j + 1, by omega, rfl, by simp [pre_len]; omega, ?_, hg.trans hg2⟩, by dsimp only; omega⟩
      rw [pre_succ, ← List.append_assoc]; exact ho2
    · obtain rfl : j = B1.top m 10 := by omega
      refine (digit_spec m _ hm (by omega) _).same ⟨_, rfl, ?_⟩
      rw [toUInt8_int (by omega)]
      obtain ⟨A2, c2, w2, hr, ho2, hg2, hn⟩ := appendB ho (B1.dig m (B1.top m 10)).toUInt8 (by omega) 5 45
      refine ⟨A2, _, c2, w2, hr, A2, c2, ?_, ?_, hg.trans hg2, hn⟩
      · rw [henc]; simp [Nat.add_assoc]
      · rw [henc, ← List.append_assoc]; exact ho2
end Go.Proofs.YtaifphjenebgoaaDoor
/- The preconditions of Go functions, printed by a program of this workplace (nests.py); each is proved to be the engine's own. -/
set_option linter.unusedVariables false
set_option maxRecDepth 100000
namespace Go.Proofs.YtaifphjenebgoaaDoor
open Go Go.Sx
noncomputable def slices_ContainsFunc_string_string.W : Option Addr → Nat → Nat → Value → World → (Value → World → Prop) → Prop := fun (s_A : Option Go.Addr) (s_n s_c : Nat) (f : Go.Value) (w :
 Go.World) (K : Go.Value → Go.World → Prop) => Go.Sx.CallsV Go.Proofs.Tryd.prog (73 : Nat) #[Go.Value.slice s_A s_n s_c, f] w fun (v : Go.Value) (w' : Go.World) => ∃ (x : Int), v = Go.Value.int
 Go.IntKind.i64 x ∧ K (Go.Value.bool (Decidable.decide ((0 : Int) ≤ x))) w'
theorem slices_ContainsFunc_string_string.eq (s_A : Option Addr) (s_n : Nat) (s_c : Nat) (f : Value) (w : World) (K : Value → World → Prop) : slices_ContainsFunc_string_string.W s_A s_n s_c f w K = fnW Tryd.prog Tryd.f42 (.named (.named .auto)) [.slice s_A s_n s_c, f] w K := by kernel_rfl
theorem slices_ContainsFunc_string_string.calls (ok : Okay Tryd.prog) {s_A : Option Addr} {s_n : Nat} {s_c : Nat} {f : Value} {w : World} {K : Value → World → Prop} (h : slices_ContainsFunc_string_string.W s_A s_n s_c f w K) : CallsV Tryd.prog 42 #[.slice s_A s_n s_c, f] w K :=
  fnW_calls ok Tryd.func42 (an := (.named (.named .auto))) (args := [.slice s_A s_n s_c, f]) (by rw [← slices_ContainsFunc_string_string.eq]; exact h)
noncomputable def slices_ContainsFunc_api_Value_api_Value.W : Option Addr → Nat → Nat → Value → World → (Value → World → Prop) → Prop := fun (s_A : Option Go.Addr) (s_n s_c : Nat) (f : Go.Value) (w :
 Go.World) (K : Go.Value → Go.World → Prop) => Go.Sx.CallsV Go.Proofs.Tryd.prog (74 : Nat) #[Go.Value.slice s_A s_n s_c, f] w fun (v : Go.Value) (w' : Go.World) => ∃ (x : Int), v = Go.Value.int
 Go.IntKind.i64 x ∧ K (Go.Value.bool (Decidable.decide ((0 : Int) ≤ x))) w'
theorem slices_ContainsFunc_api_Value_api_Value.eq (s_A : Option Addr) (s_n : Nat) (s_c : Nat) (f : Value) (w : World) (K : Value → World → Prop) : slices_ContainsFunc_api_Value_api_Value.W s_A s_n s_c f w K = fnW Tryd.prog Tryd.f43 (.named (.named .auto)) [.slice s_A s_n s_c, f] w K := by kernel_rfl
theorem slices_ContainsFunc_api_Value_api_Value.calls (ok : Okay Tryd.prog) {s_A : Option Addr} {s_n : Nat} {s_c : Nat} {f : Value} {w : World} {K : Value → World → Prop} (h : slices_ContainsFunc_api_Value_api_Value.W s_A s_n s_c f w K) : CallsV Tryd.prog 43 #[.slice s_A s_n s_c, f] w K :=
  fnW_calls ok Tryd.func43 (an := (.named (.named .auto))) (args := [.slice s_A s_n s_c, f]) (by rw [← slices_ContainsFunc_api_Value_api_Value.eq]; exact h)
noncomputable def slices_ContainsFunc_api_Cur_api_Cur.W : Option Addr → Nat → Nat → Value → World → (Value → World → Prop) → Prop := fun (s_A : Option Go.Addr) (s_n s_c : Nat) (f : Go.Value) (w :
 Go.World) (K : Go.Value → Go.World → Prop) => Go.Sx.CallsV Go.Proofs.Tryd.prog (75 : Nat) #[Go.Value.slice s_A s_n s_c, f] w fun (v : Go.Value) (w' : Go.World) => ∃ (x : Int), v = Go.Value.int
 Go.IntKind.i64 x ∧ K (Go.Value.bool (Decidable.decide ((0 : Int) ≤ x))) w'
theorem slices_ContainsFunc_api_Cur_api_Cur.eq (s_A : Option Addr) (s_n : Nat) (s_c : Nat) (f : Value) (w : World) (K : Value → World → Prop) : slices_ContainsFunc_api_Cur_api_Cur.W s_A s_n s_c f w K = fnW Tryd.prog Tryd.f44 (.named (.named .auto)) [.slice s_A s_n s_c, f] w K := by kernel_rfl
theorem slices_ContainsFunc_api_Cur_api_Cur.calls (ok : Okay Tryd.prog) {s_A : Option Addr} {s_n : Nat} {s_c : Nat} {f : Value} {w : World} {K : Value → World → Prop} (h : slices_ContainsFunc_api_Cur_api_Cur.W s_A s_n s_c f w K) : CallsV Tryd.prog 44 #[.slice s_A s_n s_c, f] w K :=
  fnW_calls ok Tryd.func44 (an := (.named (.named .auto))) (args := [.slice s_A s_n s_c, f]) (by rw [← slices_ContainsFunc_api_Cur_api_Cur.eq]; exact h)
noncomputable def slices_ContainsFunc_api_Sort_api_Sort.W : Option Addr → Nat → Nat → Value → World → (Value → World → Prop) → Prop := fun (s_A : Option Go.Addr) (s_n s_c : Nat) (f : Go.Value) (w :
 Go.World) (K : Go.Value → Go.World → Prop) => Go.Sx.CallsV Go.Proofs.Tryd.prog (76 : Nat) #[Go.Value.slice s_A s_n s_c, f] w fun (v : Go.Value) (w' : Go.World) => ∃ (x : Int), v = Go.Value.int
 Go.IntKind.i64 x ∧ K (Go.Value.bool (Decidable.decide ((0 : Int) ≤ x))) w'
theorem slices_ContainsFunc_api_Sort_api_Sort.eq (s_A : Option Addr) (s_n : Nat) (s_c : Nat) (f : Value) (w : World) (K : Value → World → Prop) : slices_ContainsFunc_api_Sort_api_Sort.W s_A s_n s_c f w K = fnW Tryd.prog Tryd.f45 (.named (.named .auto)) [.slice s_A s_n s_c, f] w K := by kernel_rfl
theorem slices_ContainsFunc_api_Sort_api_Sort.calls (ok : Okay Tryd.prog) {s_A : Option Addr} {s_n : Nat} {s_c : Nat} {f : Value} {w : World} {K : Value → World → Prop} (h : slices_ContainsFunc_api_Sort_api_Sort.W s_A s_n s_c f w K) : CallsV Tryd.prog 45 #[.slice s_A s_n s_c, f] w K :=
  fnW_calls ok Tryd.func45 (an := (.named (.named .auto))) (args := [.slice s_A s_n s_c, f]) (by rw [← slices_ContainsFunc_api_Sort_api_Sort.eq]; exact h)
noncomputable def slices_ContainsFunc_api_Acc_api_Acc.W : Option Addr → Nat → Nat → Value → World → (Value → World → Prop) → Prop := fun (s_A : Option Go.Addr) (s_n s_c : Nat) (f : Go.Value) (w :
 Go.World) (K : Go.Value → Go.World → Prop) => Go.Sx.CallsV Go.Proofs.Tryd.prog (77 : Nat) #[Go.Value.slice s_A s_n s_c, f] w fun (v : Go.Value) (w' : Go.World) => ∃ (x : Int), v = Go.Value.int
 Go.IntKind.i64 x ∧ K (Go.Value.bool (Decidable.decide ((0 : Int) ≤ x))) w'
theorem slices_ContainsFunc_api_Acc_api_Acc.eq (s_A : Option Addr) (s_n : Nat) (s_c : Nat) (f : Value) (w : World) (K : Value → World → Prop) : slices_ContainsFunc_api_Acc_api_Acc.W s_A s_n s_c f w K = fnW Tryd.prog Tryd.f46 (.named (.named .auto)) [.slice s_A s_n s_c, f] w K := by kernel_rfl
theorem slices_ContainsFunc_api_Acc_api_Acc.calls (ok : Okay Tryd.prog) {s_A : Option Addr} {s_n : Nat} {s_c : Nat} {f : Value} {w : World} {K : Value → World → Prop} (h : slices_ContainsFunc_api_Acc_api_Acc.W s_A s_n s_c f w K) : CallsV Tryd.prog 46 #[.slice s_A s_n s_c, f] w K :=
  fnW_calls ok Tryd.func46 (an := (.named (.named .auto))) (args := [.slice s_A s_n s_c, f]) (by rw [← slices_ContainsFunc_api_Acc_api_Acc.eq]; exact h)
noncomputable def slices_IndexFunc_string_string.W : Option Addr → Nat → Nat → Value → World → (Value → World → Prop) → Prop := fun (s_A : Option Go.Addr) (s_n s_c : Nat) (f : Go.Value) (w : Go.World)
 (K : Go.Value → Go.World → Prop) => ∃ (I : Int → Go.World → Prop), ∃ (μ : Int → Go.World → Nat), I (0 : Int) w ∧ ∀ (x : Int) (w : Go.World), I x w → bif Decidable.decide (x < (↑s_n : Int)) then ∃ (ad :
 Go.Addr), s_A = Option.some ad ∧ ((0 : Int) ≤ x ∧ x < (↑s_n : Int)) ∧ ∃ (x_1 : ByteArray), Go.World.cell? w (Go.Addr.add ad (Int.toNat x * (1 : Nat))) = Option.some (Go.Value.string x_1) ∧ ∃ (fid :
 Nat), ∃ (first : Array Go.Value), ∃ (captured : Array Go.Value), f = Go.Value.func (Go.Fn.func fid) first captured ∧ Go.Sx.bodied Go.Proofs.Tryd.prog fid = Bool.true ∧ Go.Sx.CallsV Go.Proofs.Tryd.prog
 fid (List.toArray (Array.toList first ++ ([Go.Value.string x_1] ++ Array.toList captured))) w fun (r : Go.Value) (w' : Go.World) => ∃ (x_2 : Bool), r = Go.Value.bool x_2 ∧ bif x_2 then K (Go.Value.int
 Go.IntKind.i64 x) w' else I (Go.IntKind.wrap Go.IntKind.i64 (x + (1 : Int))) w' ∧ μ (Go.IntKind.wrap Go.IntKind.i64 (x + (1 : Int))) w' < μ x w else K (Go.Value.int Go.IntKind.i64 (-1 : Int)) w
theorem slices_IndexFunc_string_string.eq (s_A : Option Addr) (s_n : Nat) (s_c : Nat) (f : Value) (w : World) (K : Value → World → Prop) : slices_IndexFunc_string_string.W s_A s_n s_c f w K = fnW Tryd.prog Tryd.f73 (.named (.named (.seq .auto (.seq (.seq .auto (.block (.loop [(8, .one (.int .i64))] .auto))) .auto)))) [.slice s_A s_n s_c, f] w K := by kernel_rfl
theorem slices_IndexFunc_string_string.calls (ok : Okay Tryd.prog) {s_A : Option Addr} {s_n : Nat} {s_c : Nat} {f : Value} {w : World} {K : Value → World → Prop} (h : slices_IndexFunc_string_string.W s_A s_n s_c f w K) : CallsV Tryd.prog 73 #[.slice s_A s_n s_c, f] w K :=
  fnW_calls ok Tryd.func73 (an := (.named (.named (.seq .auto (.seq (.seq .auto (.block (.loop [(8, .one (.int .i64))] .auto))) .auto))))) (args := [.slice s_A s_n s_c, f]) (by rw [← slices_IndexFunc_string_string.eq]; exact h)
noncomputable def slices_IndexFunc_api_Value_api_Value.W : Option Addr → Nat → Nat → Value → World → (Value → World → Prop) → Prop := fun (s_A : Option Go.Addr) (s_n s_c : Nat) (f : Go.Value) (w :
 Go.World) (K : Go.Value → Go.World → Prop) => ∃ (I : Int → Go.World → Prop), ∃ (μ : Int → Go.World → Nat), I (0 : Int) w ∧ ∀ (x : Int) (w : Go.World), I x w → bif Decidable.decide (x < (↑s_n : Int))
 then ∃ (ad : Go.Addr), s_A = Option.some ad ∧ ((0 : Int) ≤ x ∧ x < (↑s_n : Int)) ∧ ∃ (x_1 : Int), Go.World.cell? w (Go.Addr.add (Go.Addr.add ad (Int.toNat x * (3 : Nat))) (0 : Nat)) = Option.some
 (Go.Value.int Go.IntKind.u8 x_1) ∧ ∃ (x_2 : Int), Go.World.cell? w (Go.Addr.add (Go.Addr.add ad (Int.toNat x * (3 : Nat))) (1 : Nat)) = Option.some (Go.Value.int Go.IntKind.i64 x_2) ∧ ∃ (x_3 :
 ByteArray), Go.World.cell? w (Go.Addr.add (Go.Addr.add ad (Int.toNat x * (3 : Nat))) (2 : Nat)) = Option.some (Go.Value.string x_3) ∧ ∃ (fid : Nat), ∃ (first : Array Go.Value), ∃ (captured : Array
 Go.Value), f = Go.Value.func (Go.Fn.func fid) first captured ∧ Go.Sx.bodied Go.Proofs.Tryd.prog fid = Bool.true ∧ Go.Sx.CallsV Go.Proofs.Tryd.prog fid (List.toArray (Array.toList first ++
 ([Go.Value.agg #[Go.Value.int Go.IntKind.u8 x_1, Go.Value.int Go.IntKind.i64 x_2, Go.Value.string x_3]] ++ Array.toList captured))) w fun (r : Go.Value) (w' : Go.World) => ∃ (x_4 : Bool), r =
 Go.Value.bool x_4 ∧ bif x_4 then K (Go.Value.int Go.IntKind.i64 x) w' else I (Go.IntKind.wrap Go.IntKind.i64 (x + (1 : Int))) w' ∧ μ (Go.IntKind.wrap Go.IntKind.i64 (x + (1 : Int))) w' < μ x w else K
 (Go.Value.int Go.IntKind.i64 (-1 : Int)) w
theorem slices_IndexFunc_api_Value_api_Value.eq (s_A : Option Addr) (s_n : Nat) (s_c : Nat) (f : Value) (w : World) (K : Value → World → Prop) : slices_IndexFunc_api_Value_api_Value.W s_A s_n s_c f w K = fnW Tryd.prog Tryd.f74 (.named (.named (.seq .auto (.seq (.seq .auto (.block (.loop [(8, .one (.int .i64))] .auto))) .auto)))) [.slice s_A s_n s_c, f] w K := by kernel_rfl
theorem slices_IndexFunc_api_Value_api_Value.calls (ok : Okay Tryd.prog) {s_A : Option Addr} {s_n : Nat} {s_c : Nat} {f : Value} {w : World} {K : Value → World → Prop} (h : slices_IndexFunc_api_Value_api_Value.W s_A s_n s_c f w K) : CallsV Tryd.prog 74 #[.slice s_A s_n s_c, f] w K :=
  fnW_calls ok Tryd.func74 (an := (.named (.named (.seq .auto (.seq (.seq .auto (.block (.loop [(8, .one (.int .i64))] .auto))) .auto))))) (args := [.slice s_A s_n s_c, f]) (by rw [← slices_IndexFunc_api_Value_api_Value.eq]; exact h)
noncomputable def slices_IndexFunc_api_Cur_api_Cur.W : Option Addr → Nat → Nat → Value → World → (Value → World → Prop) → Prop := fun (s_A : Option Go.Addr) (s_n s_c : Nat) (f : Go.Value) (w :
 Go.World) (K : Go.Value → Go.World → Prop) => ∃ (I : Int → Go.World → Prop), ∃ (μ : Int → Go.World → Nat), I (0 : Int) w ∧ ∀ (x : Int) (w : Go.World), I x w → bif Decidable.decide (x < (↑s_n : Int))
 then ∃ (ad : Go.Addr), s_A = Option.some ad ∧ ((0 : Int) ≤ x ∧ x < (↑s_n : Int)) ∧ ∃ (x_1 : ByteArray), Go.World.cell? w (Go.Addr.add (Go.Addr.add ad (Int.toNat x * (3 : Nat))) (0 : Nat)) = Option.some
 (Go.Value.string x_1) ∧ ∃ (x_2 : Bool), Go.World.cell? w (Go.Addr.add (Go.Addr.add ad (Int.toNat x * (3 : Nat))) (1 : Nat)) = Option.some (Go.Value.bool x_2) ∧ ∃ (x_3 : Bool), Go.World.cell? w
 (Go.Addr.add (Go.Addr.add ad (Int.toNat x * (3 : Nat))) (2 : Nat)) = Option.some (Go.Value.bool x_3) ∧ ∃ (fid : Nat), ∃ (first : Array Go.Value), ∃ (captured : Array Go.Value), f = Go.Value.func
 (Go.Fn.func fid) first captured ∧ Go.Sx.bodied Go.Proofs.Tryd.prog fid = Bool.true ∧ Go.Sx.CallsV Go.Proofs.Tryd.prog fid (List.toArray (Array.toList first ++ ([Go.Value.agg #[Go.Value.string x_1,
 Go.Value.bool x_2, Go.Value.bool x_3]] ++ Array.toList captured))) w fun (r : Go.Value) (w' : Go.World) => ∃ (x_4 : Bool), r = Go.Value.bool x_4 ∧ bif x_4 then K (Go.Value.int Go.IntKind.i64 x) w' else
 I (Go.IntKind.wrap Go.IntKind.i64 (x + (1 : Int))) w' ∧ μ (Go.IntKind.wrap Go.IntKind.i64 (x + (1 : Int))) w' < μ x w else K (Go.Value.int Go.IntKind.i64 (-1 : Int)) w
theorem slices_IndexFunc_api_Cur_api_Cur.eq (s_A : Option Addr) (s_n : Nat) (s_c : Nat) (f : Value) (w : World) (K : Value → World → Prop) : slices_IndexFunc_api_Cur_api_Cur.W s_A s_n s_c f w K = fnW Tryd.prog Tryd.f75 (.named (.named (.seq .auto (.seq (.seq .auto (.block (.loop [(8, .one (.int .i64))] .auto))) .auto)))) [.slice s_A s_n s_c, f] w K := by kernel_rfl
theorem slices_IndexFunc_api_Cur_api_Cur.calls (ok : Okay Tryd.prog) {s_A : Option Addr} {s_n : Nat} {s_c : Nat} {f : Value} {w : World} {K : Value → World → Prop} (h : slices_IndexFunc_api_Cur_api_Cur.W s_A s_n s_c f w K) : CallsV Tryd.prog 75 #[.slice s_A s_n s_c, f] w K :=
  fnW_calls ok Tryd.func75 (an := (.named (.named (.seq .auto (.seq (.seq .auto (.block (.loop [(8, .one (.int .i64))] .auto))) .auto))))) (args := [.slice s_A s_n s_c, f]) (by rw [← slices_IndexFunc_api_Cur_api_Cur.eq]; exact h)
noncomputable def slices_IndexFunc_api_Sort_api_Sort.W : Option Addr → Nat → Nat → Value → World → (Value → World → Prop) → Prop := fun (s_A : Option Go.Addr) (s_n s_c : Nat) (f : Go.Value) (w :
 Go.World) (K : Go.Value → Go.World → Prop) => ∃ (I : Int → Go.World → Prop), ∃ (μ : Int → Go.World → Nat), I (0 : Int) w ∧ ∀ (x : Int) (w : Go.World), I x w → bif Decidable.decide (x < (↑s_n : Int))
 then ∃ (ad : Go.Addr), s_A = Option.some ad ∧ ((0 : Int) ≤ x ∧ x < (↑s_n : Int)) ∧ ∃ (x_1 : Option Go.Addr), ∃ (x_2 : Nat), ∃ (x_3 : Nat), Go.World.cell? w (Go.Addr.add (Go.Addr.add ad (Int.toNat x *
 (3 : Nat))) (0 : Nat)) = Option.some (Go.Value.slice x_1 x_2 x_3) ∧ ∃ (x_4 : Int), Go.World.cell? w (Go.Addr.add (Go.Addr.add ad (Int.toNat x * (3 : Nat))) (1 : Nat)) = Option.some (Go.Value.int
 Go.IntKind.i64 x_4) ∧ ∃ (x_5 : Bool), Go.World.cell? w (Go.Addr.add (Go.Addr.add ad (Int.toNat x * (3 : Nat))) (2 : Nat)) = Option.some (Go.Value.bool x_5) ∧ ∃ (fid : Nat), ∃ (first : Array Go.Value),
 ∃ (captured : Array Go.Value), f = Go.Value.func (Go.Fn.func fid) first captured ∧ Go.Sx.bodied Go.Proofs.Tryd.prog fid = Bool.true ∧ Go.Sx.CallsV Go.Proofs.Tryd.prog fid (List.toArray (Array.toList
 first ++ ([Go.Value.agg #[Go.Value.slice x_1 x_2 x_3, Go.Value.int Go.IntKind.i64 x_4, Go.Value.bool x_5]] ++ Array.toList captured))) w fun (r : Go.Value) (w' : Go.World) => ∃ (x_6 : Bool), r =
 Go.Value.bool x_6 ∧ bif x_6 then K (Go.Value.int Go.IntKind.i64 x) w' else I (Go.IntKind.wrap Go.IntKind.i64 (x + (1 : Int))) w' ∧ μ (Go.IntKind.wrap Go.IntKind.i64 (x + (1 : Int))) w' < μ x w else K
 (Go.Value.int Go.IntKind.i64 (-1 : Int)) w
theorem slices_IndexFunc_api_Sort_api_Sort.eq (s_A : Option Addr) (s_n : Nat) (s_c : Nat) (f : Value) (w : World) (K : Value → World → Prop) : slices_IndexFunc_api_Sort_api_Sort.W s_A s_n s_c f w K = fnW Tryd.prog Tryd.f76 (.named (.named (.seq .auto (.seq (.seq .auto (.block (.loop [(8, .one (.int .i64))] .auto))) .auto)))) [.slice s_A s_n s_c, f] w K := by kernel_rfl
theorem slices_IndexFunc_api_Sort_api_Sort.calls (ok : Okay Tryd.prog) {s_A : Option Addr} {s_n : Nat} {s_c : Nat} {f : Value} {w : World} {K : Value → World → Prop} (h : slices_IndexFunc_api_Sort_api_Sort.W s_A s_n s_c f w K) : CallsV Tryd.prog 76 #[.slice s_A s_n s_c, f] w K :=
  fnW_calls ok Tryd.func76 (an := (.named (.named (.seq .auto (.seq (.seq .auto (.block (.loop [(8, .one (.int .i64))] .auto))) .auto))))) (args := [.slice s_A s_n s_c, f]) (by rw [← slices_IndexFunc_api_Sort_api_Sort.eq]; exact h)
noncomputable def slices_IndexFunc_api_Acc_api_Acc.W : Option Addr → Nat → Nat → Value → World → (Value → World → Prop) → Prop := fun (s_A : Option Go.Addr) (s_n s_c : Nat) (f : Go.Value) (w :
 Go.World) (K : Go.Value → Go.World → Prop) => ∃ (I : Int → Go.World → Prop), ∃ (μ : Int → Go.World → Nat), I (0 : Int) w ∧ ∀ (x : Int) (w : Go.World), I x w → bif Decidable.decide (x < (↑s_n : Int))
 then ∃ (ad : Go.Addr), s_A = Option.some ad ∧ ((0 : Int) ≤ x ∧ x < (↑s_n : Int)) ∧ ∃ (x_1 : ByteArray), Go.World.cell? w (Go.Addr.add (Go.Addr.add ad (Int.toNat x * (2 : Nat))) (0 : Nat)) = Option.some
 (Go.Value.string x_1) ∧ ∃ (x_2 : Bool), Go.World.cell? w (Go.Addr.add (Go.Addr.add ad (Int.toNat x * (2 : Nat))) (1 : Nat)) = Option.some (Go.Value.bool x_2) ∧ ∃ (fid : Nat), ∃ (first : Array
 Go.Value), ∃ (captured : Array Go.Value), f = Go.Value.func (Go.Fn.func fid) first captured ∧ Go.Sx.bodied Go.Proofs.Tryd.prog fid = Bool.true ∧ Go.Sx.CallsV Go.Proofs.Tryd.prog fid (List.toArray
 (Array.toList first ++ ([Go.Value.agg #[Go.Value.string x_1, Go.Value.bool x_2]] ++ Array.toList captured))) w fun (r : Go.Value) (w' : Go.World) => ∃ (x_3 : Bool), r = Go.Value.bool x_3 ∧ bif x_3 then
 K (Go.Value.int Go.IntKind.i64 x) w' else I (Go.IntKind.wrap Go.IntKind.i64 (x + (1 : Int))) w' ∧ μ (Go.IntKind.wrap Go.IntKind.i64 (x + (1 : Int))) w' < μ x w else K (Go.Value.int Go.IntKind.i64 (-1 :
 Int)) w
theorem slices_IndexFunc_api_Acc_api_Acc.eq (s_A : Option Addr) (s_n : Nat) (s_c : Nat) (f : Value) (w : World) (K : Value → World → Prop) : slices_IndexFunc_api_Acc_api_Acc.W s_A s_n s_c f w K = fnW Tryd.prog Tryd.f77 (.named (.named (.seq .auto (.seq (.seq .auto (.block (.loop [(8, .one (.int .i64))] .auto))) .auto)))) [.slice s_A s_n s_c, f] w K := by kernel_rfl
theorem slices_IndexFunc_api_Acc_api_Acc.calls (ok : Okay Tryd.prog) {s_A : Option Addr} {s_n : Nat} {s_c : Nat} {f : Value} {w : World} {K : Value → World → Prop} (h : slices_IndexFunc_api_Acc_api_Acc.W s_A s_n s_c f w K) : CallsV Tryd.prog 77 #[.slice s_A s_n s_c, f] w K :=
  fnW_calls ok Tryd.func77 (an := (.named (.named (.seq .auto (.seq (.seq .auto (.block (.loop [(8, .one (.int .i64))] .auto))) .auto))))) (args := [.slice s_A s_n s_c, f]) (by rw [← slices_IndexFunc_api_Acc_api_Acc.eq]; exact h)
noncomputable def code_parts_5.W : Option Addr → Nat → Nat → Int → Bool → Addr → World → (Value → World → Prop) → Prop := fun (s0_A : Option Go.Addr) (s0_n s0_c : Nat) (s1 : Int) (s2 : Bool) (a1 :
 Go.Addr) (w : Go.World) (K : Go.Value → Go.World → Prop) => ∀ (g : Nat) (w' : Go.World), Go.Sx.Fresh w g w' [Go.Value.slice s0_A s0_n s0_c, Go.Value.int Go.IntKind.i64 s1, Go.Value.bool s2] (56 : Nat)
 → ∃ (x : Option Go.Addr), ∃ (x_1 : Nat), ∃ (x_2 : Nat), Go.World.cell? w' (Go.Addr.add (Go.Addr.mk g (0 : Nat) Option.none) (0 : Nat)) = Option.some (Go.Value.slice x x_1 x_2) ∧ bif Decidable.decide
 ((30 : Int) < (↑x_1 : Int)) then K (Go.Value.bool Bool.true) w' else ∃ (x : Go.Value), Go.World.cell? w' a1 = Option.some x ∧ ∃ (x_3 : Int), Go.World.cell? w' (Go.Addr.add (Go.Addr.mk g (0 : Nat)
 Option.none) (1 : Nat)) = Option.some (Go.Value.int Go.IntKind.i64 x_3) ∧ ∃ (fid : Nat), ∃ (first : Array Go.Value), ∃ (captured : Array Go.Value), x = Go.Value.func (Go.Fn.func fid) first captured ∧
 Go.Sx.bodied Go.Proofs.Tryd.prog fid = Bool.true ∧ Go.Sx.CallsV Go.Proofs.Tryd.prog fid (List.toArray (Array.toList first ++ ([Go.Value.int Go.IntKind.i64 x_3, Go.Value.int Go.IntKind.i64 (1 : Int),
 Go.Value.int Go.IntKind.i64 (60 : Int)] ++ Array.toList captured))) w' fun (r : Go.Value) (w' : Go.World) => ∃ (x : Bool), r = Go.Value.bool x ∧ K (Go.Value.bool !x) w'
theorem code_parts_5.eq (s0_A : Option Addr) (s0_n : Nat) (s0_c : Nat) (s1 : Int) (s2 : Bool) (a1 : Addr) (w : World) (K : Value → World → Prop) : code_parts_5.W s0_A s0_n s0_c s1 s2 a1 w K = fnW Tryd.prog Tryd.f39 (.named (.named .auto)) [.agg #[.slice s0_A s0_n s0_c, .int .i64 s1, .bool s2], .pointer (some a1)] w K := by kernel_rfl
theorem code_parts_5.calls (ok : Okay Tryd.prog) {s0_A : Option Addr} {s0_n : Nat} {s0_c : Nat} {s1 : Int} {s2 : Bool} {a1 : Addr} {w : World} {K : Value → World → Prop} (h : code_parts_5.W s0_A s0_n s0_c s1 s2 a1 w K) : CallsV Tryd.prog 39 #[.agg #[.slice s0_A s0_n s0_c, .int .i64 s1, .bool s2], .pointer (some a1)] w K :=
  fnW_calls ok Tryd.func39 (an := (.named (.named .auto))) (args := [.agg #[.slice s0_A s0_n s0_c, .int .i64 s1, .bool s2], .pointer (some a1)]) (by rw [← code_parts_5.eq]; exact h)
noncomputable def code_parts.W : Int → Int → Int → Option Addr → Nat → Nat → Option Addr → Nat → Nat → Option Addr → Nat → Nat → Option Addr → Nat → Nat → Option Addr → Nat → Nat → Option Addr → Nat →
 Nat → World → (Value → World → Prop) → Prop := fun (p0 p1 p2 : Int) (p3_A : Option Go.Addr) (p3_n p3_c : Nat) (p4_A : Option Go.Addr) (p4_n p4_c : Nat) (p5_A : Option Go.Addr) (p5_n p5_c : Nat) (p6_A :
 Option Go.Addr) (p6_n p6_c : Nat) (p7_A : Option Go.Addr) (p7_n p7_c : Nat) (p8_A : Option Go.Addr) (p8_n p8_c : Nat) (w : Go.World) (K : Go.Value → Go.World → Prop) => ∀ (g : Nat) (w' : Go.World),
 Go.Sx.Fresh w g w' [Go.Value.int Go.IntKind.i64 p0, Go.Value.int Go.IntKind.i64 p1, Go.Value.int Go.IntKind.i64 p2, Go.Value.slice p3_A p3_n p3_c, Go.Value.slice p4_A p4_n p4_c, Go.Value.slice p5_A
 p5_n p5_c, Go.Value.slice p6_A p6_n p6_c, Go.Value.slice p7_A p7_n p7_c, Go.Value.slice p8_A p8_n p8_c] (29 : Nat) → ∀ (g_1 : Nat) (w'_1 : Go.World), Go.Sx.Fresh w' g_1 w'_1 [Go.Value.nilFunc] (78 :
 Nat) → Go.Sx.cellsL (Go.Value.func (Go.Fn.func (34 : Nat)) #[] #[]) = [Go.Value.func (Go.Fn.func (34 : Nat)) #[] #[]] ∧ Go.Value.oneCell' (Go.Value.func (Go.Fn.func (34 : Nat)) #[] #[]) = Bool.true ∧
 Go.Sx.stOK (Go.Addr.mk g_1 (0 : Nat) Option.none) (0 : Nat) [Go.Value.func (Go.Fn.func (34 : Nat)) #[] #[]] w'_1 ∧ ∀ (w' : Go.World), w' = Go.Sx.setAll (Go.Addr.mk g_1 (0 : Nat) Option.none) (0 : Nat)
 [Go.Value.func (Go.Fn.func (34 : Nat)) #[] #[]] w'_1 → ∃ (x : Go.Value), Go.World.cell? w' (Go.Addr.mk g_1 (0 : Nat) Option.none) = Option.some x ∧ ∃ (x_1 : Int), Go.World.cell? w' (Go.Addr.add
 (Go.Addr.mk g (0 : Nat) Option.none) (0 : Nat)) = Option.some (Go.Value.int Go.IntKind.i64 x_1) ∧ ∃ (fid : Nat), ∃ (first : Array Go.Value), ∃ (captured : Array Go.Value), x = Go.Value.func (Go.Fn.func
 fid) first captured ∧ Go.Sx.bodied Go.Proofs.Tryd.prog fid = Bool.true ∧ Go.Sx.CallsV Go.Proofs.Tryd.prog fid (List.toArray (Array.toList first ++ ([Go.Value.int Go.IntKind.i64 x_1, Go.Value.int
 Go.IntKind.i64 (1 : Int), Go.Value.int Go.IntKind.i64 (1099511627776 : Int)] ++ Array.toList captured))) w' fun (r : Go.Value) (w' : Go.World) => ∃ (x : Bool), r = Go.Value.bool x ∧ bif x then ∃ (x :
 Go.Value), Go.World.cell? w' (Go.Addr.mk g_1 (0 : Nat) Option.none) = Option.some x ∧ ∃ (x_2 : Int), Go.World.cell? w' (Go.Addr.add (Go.Addr.mk g (0 : Nat) Option.none) (1 : Nat)) = Option.some
 (Go.Value.int Go.IntKind.i64 x_2) ∧ ∃ (fid : Nat), ∃ (first : Array Go.Value), ∃ (captured : Array Go.Value), x = Go.Value.func (Go.Fn.func fid) first captured ∧ Go.Sx.bodied Go.Proofs.Tryd.prog fid =
 Bool.true ∧ Go.Sx.CallsV Go.Proofs.Tryd.prog fid (List.toArray (Array.toList first ++ ([Go.Value.int Go.IntKind.i64 x_2, Go.Value.int Go.IntKind.i64 (1 : Int), Go.Value.int Go.IntKind.i64 (250 : Int)]
 ++ Array.toList captured))) w' fun (r : Go.Value) (w' : Go.World) => ∃ (x : Bool), r = Go.Value.bool x ∧ bif x then ∃ (x : Go.Value), Go.World.cell? w' (Go.Addr.mk g_1 (0 : Nat) Option.none) =
 Option.some x ∧ ∃ (x_3 : Int), Go.World.cell? w' (Go.Addr.add (Go.Addr.mk g (0 : Nat) Option.none) (2 : Nat)) = Option.some (Go.Value.int Go.IntKind.i64 x_3) ∧ ∃ (fid : Nat), ∃ (first : Array
 Go.Value), ∃ (captured : Array Go.Value), x = Go.Value.func (Go.Fn.func fid) first captured ∧ Go.Sx.bodied Go.Proofs.Tryd.prog fid = Bool.true ∧ Go.Sx.CallsV Go.Proofs.Tryd.prog fid (List.toArray
 (Array.toList first ++ ([Go.Value.int Go.IntKind.i64 x_3, Go.Value.int Go.IntKind.i64 (0 : Int), Go.Value.int Go.IntKind.i64 (1000 : Int)] ++ Array.toList captured))) w' fun (r : Go.Value) (w' :
 Go.World) => ∃ (x : Bool), r = Go.Value.bool x ∧ bif x then ∃ (x : Option Go.Addr), ∃ (x_4 : Nat), ∃ (x_5 : Nat), Go.World.cell? w' (Go.Addr.add (Go.Addr.mk g (0 : Nat) Option.none) (3 : Nat)) =
 Option.some (Go.Value.slice x x_4 x_5) ∧ bif Decidable.decide ((↑x_4 : Int) ≤ (200 : Int)) then ∃ (x : Option Go.Addr), ∃ (x_6 : Nat), ∃ (x_7 : Nat), Go.World.cell? w' (Go.Addr.add (Go.Addr.mk g (0 :
 Nat) Option.none) (4 : Nat)) = Option.some (Go.Value.slice x x_6 x_7) ∧ bif Decidable.decide ((↑x_6 : Int) ≤ (1000 : Int)) then ∃ (x : Option Go.Addr), ∃ (x_8 : Nat), ∃ (x_9 : Nat), Go.World.cell? w'
 (Go.Addr.add (Go.Addr.mk g (0 : Nat) Option.none) (5 : Nat)) = Option.some (Go.Value.slice x x_8 x_9) ∧ bif Decidable.decide ((↑x_8 : Int) ≤ (12 : Int)) then ∃ (x : Option Go.Addr), ∃ (x_10 : Nat), ∃
 (x_11 : Nat), Go.World.cell? w' (Go.Addr.add (Go.Addr.mk g (0 : Nat) Option.none) (6 : Nat)) = Option.some (Go.Value.slice x x_10 x_11) ∧ bif Decidable.decide ((↑x_10 : Int) ≤ (6 : Int)) then ∃ (x :
 Option Go.Addr), ∃ (x_12 : Nat), ∃ (x_13 : Nat), Go.World.cell? w' (Go.Addr.add (Go.Addr.mk g (0 : Nat) Option.none) (7 : Nat)) = Option.some (Go.Value.slice x x_12 x_13) ∧ bif Decidable.decide ((↑x_12
 : Int) ≤ (60 : Int)) then ∃ (x : Option Go.Addr), ∃ (x_14 : Nat), ∃ (x_15 : Nat), Go.World.cell? w' (Go.Addr.add (Go.Addr.mk g (0 : Nat) Option.none) (3 : Nat)) = Option.some (Go.Value.slice x x_14
 x_15) ∧ Go.Sx.CallsV Go.Proofs.Tryd.prog (42 : Nat) #[Go.Value.slice x x_14 x_15, Go.Value.func (Go.Fn.func (35 : Nat)) #[] #[]] w' fun (v : Go.Value) (w' : Go.World) => ∃ (x : Bool), v = Go.Value.bool
 x ∧ bif !x then ∃ (x : Option Go.Addr), ∃ (x_16 : Nat), ∃ (x_17 : Nat), Go.World.cell? w' (Go.Addr.add (Go.Addr.mk g (0 : Nat) Option.none) (4 : Nat)) = Option.some (Go.Value.slice x x_16 x_17) ∧
 Go.Sx.CallsV Go.Proofs.Tryd.prog (43 : Nat) #[Go.Value.slice x x_16 x_17, Go.Value.func (Go.Fn.func (36 : Nat)) #[] #[]] w' fun (v : Go.Value) (w' : Go.World) => ∃ (x : Bool), v = Go.Value.bool x ∧ bif
 !x then ∃ (x : Option Go.Addr), ∃ (x_18 : Nat), ∃ (x_19 : Nat), Go.World.cell? w' (Go.Addr.add (Go.Addr.mk g (0 : Nat) Option.none) (5 : Nat)) = Option.some (Go.Value.slice x x_18 x_19) ∧ Go.Sx.CallsV
 Go.Proofs.Tryd.prog (44 : Nat) #[Go.Value.slice x x_18 x_19, Go.Value.func (Go.Fn.func (38 : Nat)) #[] #[]] w' fun (v : Go.Value) (w' : Go.World) => ∃ (x : Bool), v = Go.Value.bool x ∧ bif !x then ∃ (x
 : Option Go.Addr), ∃ (x_20 : Nat), ∃ (x_21 : Nat), Go.World.cell? w' (Go.Addr.add (Go.Addr.mk g (0 : Nat) Option.none) (6 : Nat)) = Option.some (Go.Value.slice x x_20 x_21) ∧ Go.Sx.CallsV
 Go.Proofs.Tryd.prog (45 : Nat) #[Go.Value.slice x x_20 x_21, Go.Value.func (Go.Fn.func (39 : Nat)) #[] #[Go.Value.pointer (Option.some (Go.Addr.mk g_1 (0 : Nat) Option.none))]] w' fun (v : Go.Value)
 (w' : Go.World) => ∃ (x : Bool), v = Go.Value.bool x ∧ bif !x then ∃ (x : Option Go.Addr), ∃ (x_22 : Nat), ∃ (x_23 : Nat), Go.World.cell? w' (Go.Addr.add (Go.Addr.mk g (0 : Nat) Option.none) (7 : Nat))
 = Option.some (Go.Value.slice x x_22 x_23) ∧ Go.Sx.CallsV Go.Proofs.Tryd.prog (46 : Nat) #[Go.Value.slice x x_22 x_23, Go.Value.func (Go.Fn.func (40 : Nat)) #[] #[]] w' fun (v : Go.Value) (w' :
 Go.World) => ∃ (x : Bool), v = Go.Value.bool x ∧ K (Go.Value.bool !x) w' else K (Go.Value.bool Bool.false) w' else K (Go.Value.bool Bool.false) w' else K (Go.Value.bool Bool.false) w' else K
 (Go.Value.bool Bool.false) w' else K (Go.Value.bool Bool.false) w' else K (Go.Value.bool Bool.false) w' else K (Go.Value.bool Bool.false) w' else K (Go.Value.bool Bool.false) w' else K (Go.Value.bool
 Bool.false) w' else K (Go.Value.bool Bool.false) w' else K (Go.Value.bool Bool.false) w' else K (Go.Value.bool Bool.false) w'
theorem code_parts.eq (p0 : Int) (p1 : Int) (p2 : Int) (p3_A : Option Addr) (p3_n : Nat) (p3_c : Nat) (p4_A : Option Addr) (p4_n : Nat) (p4_c : Nat) (p5_A : Option Addr) (p5_n : Nat) (p5_c : Nat) (p6_A : Option Addr) (p6_n : Nat) (p6_c : Nat) (p7_A : Option Addr) (p7_n : Nat) (p7_c : Nat) (p8_A : Option Addr) (p8_n : Nat) (p8_c : Nat) (w : World) (K : Value → World → Prop) : code_parts.W p0 p1 p2 p3_A p3_n p3_c p4_A p4_n p4_c p5_A p5_n p5_c p6_A p6_n p6_c p7_A p7_n p7_c p8_A p8_n p8_c w K = fnW Tryd.prog Tryd.f18 (.named (.named .auto)) [.agg #[.int .i64 p0, .int .i64 p1, .int .i64 p2, .slice p3_A p3_n p3_c, .slice p4_A p4_n p4_c, .slice p5_A p5_n p5_c, .slice p6_A p6_n p6_c, .slice p7_A p7_n p7_c, .slice p8_A p8_n p8_c]] w K := by kernel_rfl
theorem code_parts.calls (ok : Okay Tryd.prog) {p0 : Int} {p1 : Int} {p2 : Int} {p3_A : Option Addr} {p3_n : Nat} {p3_c : Nat} {p4_A : Option Addr} {p4_n : Nat} {p4_c : Nat} {p5_A : Option Addr} {p5_n : Nat} {p5_c : Nat} {p6_A : Option Addr} {p6_n : Nat} {p6_c : Nat} {p7_A : Option Addr} {p7_n : Nat} {p7_c : Nat} {p8_A : Option Addr} {p8_n : Nat} {p8_c : Nat} {w : World} {K : Value → World → Prop} (h : code_parts.W p0 p1 p2 p3_A p3_n p3_c p4_A p4_n p4_c p5_A p5_n p5_c p6_A p6_n p6_c p7_A p7_n p7_c p8_A p8_n p8_c w K) : CallsV Tryd.prog 18 #[.agg #[.int .i64 p0, .int .i64 p1, .int .i64 p2, .slice p3_A p3_n p3_c, .slice p4_A p4_n p4_c, .slice p5_A p5_n p5_c, .slice p6_A p6_n p6_c, .slice p7_A p7_n p7_c, .slice p8_A p8_n p8_c]] w K :=
  fnW_calls ok Tryd.func18 (an := (.named (.named .auto))) (args := [.agg #[.int .i64 p0, .int .i64 p1, .int .i64 p2, .slice p3_A p3_n p3_c, .slice p4_A p4_n p4_c, .slice p5_A p5_n p5_c, .slice p6_A p6_n p6_c, .slice p7_A p7_n p7_c, .slice p8_A p8_n p8_c]]) (by rw [← code_parts.eq]; exact h)
end Go.Proofs.YtaifphjenebgoaaDoor
