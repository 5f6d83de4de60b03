/- The preconditions of Go functions, printed by a program of this workplace (nests.py); each is proved to be the engine's own. -/
import Derived.Test.YtakmlaliglmnmaaProg
import Derived.Test.YtakmlaliglmnmaaSxWp
set_option linter.unusedVariables false
set_option maxRecDepth 100000
namespace Go.Proofs.Ytakmlaliglmnmaa
open Go Go.Sx
noncomputable def bytes_digit.W : Int → Int → World → (Value → World → Prop) → Prop := fun (n k : Int) (w : Go.World) (K : Go.Value → Go.World → Prop) => (0 : Int) ≤ Go.IntKind.wrap Go.IntKind.i64 ((7
 : Int) * k) ∧ (128 : Int) ≠ (0 : Int) ∧ K (Go.Value.int Go.IntKind.u8 (Go.IntKind.wrap Go.IntKind.u8 (Int.tmod (Int.fdiv n ((2 : Int) ^ Min.min (Int.toNat (Go.IntKind.wrap Go.IntKind.i64 ((7 : Int) *
 k))) (64 : Nat))) (128 : Int)))) w
theorem bytes_digit.eq (n : Int) (k : Int) (w : World) (K : Value → World → Prop) : bytes_digit.W n k w K = fnW Try.prog Try.f84 .auto [.int .u64 n, .int .i64 k] w K := by kernel_rfl
theorem bytes_digit.calls (ok : Okay Try.prog) {n : Int} {k : Int} {w : World} {K : Value → World → Prop} (h : bytes_digit.W n k w K) : CallsV Try.prog 84 #[.int .u64 n, .int .i64 k] w K :=
  fnW_calls ok Try.func84 (an := .auto) (args := [.int .u64 n, .int .i64 k]) (by rw [← bytes_digit.eq]; exact h)
noncomputable def bytes_Uint.W : Option Addr → Nat → Nat → Int → World → (Value → World → Prop) → Prop := fun (out_A : Option Go.Addr) (out_n out_c : Nat) (n : Int) (w : Go.World) (K : Go.Value →
 Go.World → Prop) => ∃ (I : Int → Int → Go.World → Prop), ∃ (μ : Int → Int → Go.World → Nat), I (0 : Int) (0 : Int) w ∧ ∀ (x x_1 : Int) (w : Go.World), I x x_1 w → bif Decidable.decide (x_1 < (10 :
 Int)) then Go.Sx.CallsV Go.Proofs.Try.prog (84 : Nat) #[Go.Value.int Go.IntKind.u64 n, Go.Value.int Go.IntKind.i64 x_1] w fun (v : Go.Value) (w' : Go.World) => ∃ (x_2 : Int), v = Go.Value.int
 Go.IntKind.u8 x_2 ∧ bif Decidable.decide ((0 : Int) < x_2) then I x_1 (Go.IntKind.wrap Go.IntKind.i64 (x_1 + (1 : Int))) w' ∧ μ x_1 (Go.IntKind.wrap Go.IntKind.i64 (x_1 + (1 : Int))) w' < μ x x_1 w
 else I x (Go.IntKind.wrap Go.IntKind.i64 (x_1 + (1 : Int))) w' ∧ μ x (Go.IntKind.wrap Go.IntKind.i64 (x_1 + (1 : Int))) w' < μ x x_1 w else ∃ (I : Option Go.Addr → Nat → Nat → Int → Go.World → Prop), ∃
 (μ : Option Go.Addr → Nat → Nat → Int → Go.World → Nat), I out_A out_n out_c (0 : Int) w ∧ ∀ (x_2 : Option Go.Addr) (x_3 x_4 : Nat) (x_5 : Int) (w : Go.World), I x_2 x_3 x_4 x_5 w → bif
 Decidable.decide (x_5 < x) then Go.Sx.CallsV Go.Proofs.Try.prog (84 : Nat) #[Go.Value.int Go.IntKind.u64 n, Go.Value.int Go.IntKind.i64 x_5] w fun (v : Go.Value) (w' : Go.World) => ∃ (x : Int), v =
 Go.Value.int Go.IntKind.u8 x ∧ ∃ (x_6 : Option Go.Addr), ∃ (x_7 : Nat), ∃ (x_8 : Nat), ∃ (w'_1 : Go.World), Go.Sx.RunsTo Go.Proofs.Try.prog (Go.Builtin.append_ (Array.mk [(76 : Nat), (76 : Nat)]) (76 :
 Nat) #[Go.Value.slice x_2 x_3 x_4, Go.Value.slice (Option.some (Go.Addr.mk (Array.size (Go.World.heap w')) (0 : Nat) Option.none)) (1 : Nat) (1 : Nat)]) (Go.World.alloc w' (Go.Obj.cells #[Go.Value.int
 Go.IntKind.u8 (Go.IntKind.wrap Go.IntKind.u8 (x + (128 : Int)))] (5 : Nat))) (Go.Value.slice x_6 x_7 x_8) w'_1 ∧ I x_6 x_7 x_8 (Go.IntKind.wrap Go.IntKind.i64 (x_5 + (1 : Int))) w'_1 ∧ μ x_6 x_7 x_8
 (Go.IntKind.wrap Go.IntKind.i64 (x_5 + (1 : Int))) w'_1 < μ x_2 x_3 x_4 x_5 w else Go.Sx.CallsV Go.Proofs.Try.prog (84 : Nat) #[Go.Value.int Go.IntKind.u64 n, Go.Value.int Go.IntKind.i64 x] w fun (v :
 Go.Value) (w' : Go.World) => ∃ (x : Int), v = Go.Value.int Go.IntKind.u8 x ∧ ∃ (x_6 : Option Go.Addr), ∃ (x_7 : Nat), ∃ (x_8 : Nat), ∃ (w'_1 : Go.World), Go.Sx.RunsTo Go.Proofs.Try.prog
 (Go.Builtin.append_ (Array.mk [(76 : Nat), (76 : Nat)]) (76 : Nat) #[Go.Value.slice x_2 x_3 x_4, Go.Value.slice (Option.some (Go.Addr.mk (Array.size (Go.World.heap w')) (0 : Nat) Option.none)) (1 :
 Nat) (1 : Nat)]) (Go.World.alloc w' (Go.Obj.cells #[Go.Value.int Go.IntKind.u8 x] (5 : Nat))) (Go.Value.slice x_6 x_7 x_8) w'_1 ∧ K (Go.Value.slice x_6 x_7 x_8) w'_1
theorem bytes_Uint.eq (out_A : Option Addr) (out_n : Nat) (out_c : Nat) (n : Int) (w : World) (K : Value → World → Prop) : bytes_Uint.W out_A out_n out_c n w K = fnW Try.prog Try.f60 (.seq .auto (.seq .auto (.seq (.seq .auto (.block (.loop [(5, .one (.int .i64)), (8, .one (.int .i64))] .auto))) (.seq (.seq .auto (.block (.loop [(0, .one .slc), (18, .one (.int .i64))] .auto))) .auto)))) [.slice out_A out_n out_c, .int .u64 n] w K := by kernel_rfl
theorem bytes_Uint.calls (ok : Okay Try.prog) {out_A : Option Addr} {out_n : Nat} {out_c : Nat} {n : Int} {w : World} {K : Value → World → Prop} (h : bytes_Uint.W out_A out_n out_c n w K) : CallsV Try.prog 60 #[.slice out_A out_n out_c, .int .u64 n] w K :=
  fnW_calls ok Try.func60 (an := (.seq .auto (.seq .auto (.seq (.seq .auto (.block (.loop [(5, .one (.int .i64)), (8, .one (.int .i64))] .auto))) (.seq (.seq .auto (.block (.loop [(0, .one .slc), (18, .one (.int .i64))] .auto))) .auto))))) (args := [.slice out_A out_n out_c, .int .u64 n]) (by rw [← bytes_Uint.eq]; exact h)
noncomputable def cardindexlow_CopyValues.W : Option Addr → Nat → Nat → World → (Value → World → Prop) → Prop := fun (l_A : Option Go.Addr) (l_n l_c : Nat) (w : Go.World) (K : Go.Value → Go.World →
 Prop) => ∃ (x : Option Go.Addr), ∃ (x_1 : Nat), ∃ (x_2 : Nat), ∃ (w' : Go.World), Go.Sx.RunsTo Go.Proofs.Try.prog (Go.Builtin.append_ (Array.mk [(32 : Nat), (32 : Nat)]) (32 : Nat) #[Go.Value.slice
 Option.none (0 : Nat) (0 : Nat), Go.Value.slice l_A l_n l_c]) w (Go.Value.slice x x_1 x_2) w' ∧ K (Go.Value.slice x x_1 x_2) w'
theorem cardindexlow_CopyValues.eq (l_A : Option Addr) (l_n : Nat) (l_c : Nat) (w : World) (K : Value → World → Prop) : cardindexlow_CopyValues.W l_A l_n l_c w K = fnW Try.prog Try.f17 .auto [.slice l_A l_n l_c] w K := by kernel_rfl
theorem cardindexlow_CopyValues.calls (ok : Okay Try.prog) {l_A : Option Addr} {l_n : Nat} {l_c : Nat} {w : World} {K : Value → World → Prop} (h : cardindexlow_CopyValues.W l_A l_n l_c w K) : CallsV Try.prog 17 #[.slice l_A l_n l_c] w K :=
  fnW_calls ok Try.func17 (an := .auto) (args := [.slice l_A l_n l_c]) (by rw [← cardindexlow_CopyValues.eq]; exact h)
noncomputable def cardindexlow_Small.W : Option Addr → Nat → Nat → Int → Int → World → (Value → World → Prop) → Prop := fun (l_A : Option Go.Addr) (l_n l_c : Nat) (most long : Int) (w : Go.World) (K :
 Go.Value → Go.World → Prop) => bif Decidable.decide (most < (↑l_n : Int)) then K (Go.Value.bool Bool.false) w else ∃ (I : Int → Go.World → Prop), ∃ (μ : Int → Go.World → Nat), I (0 : Int) w ∧ ∀ (x :
 Int) (w : Go.World), I x w → bif Decidable.decide (x < (↑l_n : Int)) then ∃ (ad : Go.Addr), l_A = Option.some ad ∧ ((0 : Int) ≤ x ∧ x < (↑l_n : Int)) ∧ ∃ (x_1 : ByteArray), Go.World.cell? w
 (Go.Addr.add (Go.Addr.add ad (Int.toNat x * (3 : Nat))) (2 : Nat)) = Option.some (Go.Value.string x_1) ∧ bif Decidable.decide (long < (↑(ByteArray.size x_1) : Int)) then K (Go.Value.bool Bool.false) w
 else I (Go.IntKind.wrap Go.IntKind.i64 (x + (1 : Int))) w ∧ μ (Go.IntKind.wrap Go.IntKind.i64 (x + (1 : Int))) w < μ x w else K (Go.Value.bool Bool.true) w
theorem cardindexlow_Small.eq (l_A : Option Addr) (l_n : Nat) (l_c : Nat) (most : Int) (long : Int) (w : World) (K : Value → World → Prop) : cardindexlow_Small.W l_A l_n l_c most long w K = fnW Try.prog Try.f16 (.seq .auto (.seq .auto (.seq (.seq .auto (.block (.loop [(7, .one (.int .i64))] .auto))) .auto))) [.slice l_A l_n l_c, .int .i64 most, .int .i64 long] w K := by kernel_rfl
theorem cardindexlow_Small.calls (ok : Okay Try.prog) {l_A : Option Addr} {l_n : Nat} {l_c : Nat} {most : Int} {long : Int} {w : World} {K : Value → World → Prop} (h : cardindexlow_Small.W l_A l_n l_c most long w K) : CallsV Try.prog 16 #[.slice l_A l_n l_c, .int .i64 most, .int .i64 long] w K :=
  fnW_calls ok Try.func16 (an := (.seq .auto (.seq .auto (.seq (.seq .auto (.block (.loop [(7, .one (.int .i64))] .auto))) .auto)))) (args := [.slice l_A l_n l_c, .int .i64 most, .int .i64 long]) (by rw [← cardindexlow_Small.eq]; exact h)
noncomputable def cardindexlow_Num.W : Int → World → (Value → World → Prop) → Prop := fun (n : Int) (w : Go.World) (K : Go.Value → Go.World → Prop) => (Option.isSome (Go.World.cell? (Go.World.alloc w
 (Go.Obj.cells #[Go.Value.int Go.IntKind.u8 (0 : Int), Go.Value.int Go.IntKind.i64 (0 : Int), Go.Value.string (ByteArray.mk #[])] (31 : Nat))) (Go.Addr.add (Go.Addr.mk (Array.size (Go.World.heap w)) (0
 : Nat) Option.none) (0 : Nat))) = Bool.true ∧ Go.World.frozen? (Go.World.alloc w (Go.Obj.cells #[Go.Value.int Go.IntKind.u8 (0 : Int), Go.Value.int Go.IntKind.i64 (0 : Int), Go.Value.string
 (ByteArray.mk #[])] (31 : Nat))) (Go.Addr.add (Go.Addr.mk (Array.size (Go.World.heap w)) (0 : Nat) Option.none) (0 : Nat)) = Bool.false) ∧ (Option.isSome (Go.World.cell? (Go.World.setCell
 (Go.World.alloc w (Go.Obj.cells #[Go.Value.int Go.IntKind.u8 (0 : Int), Go.Value.int Go.IntKind.i64 (0 : Int), Go.Value.string (ByteArray.mk #[])] (31 : Nat))) (Go.Addr.add (Go.Addr.mk (Array.size
 (Go.World.heap w)) (0 : Nat) Option.none) (0 : Nat)) (Go.Value.int Go.IntKind.u8 (1 : Int))) (Go.Addr.add (Go.Addr.mk (Array.size (Go.World.heap w)) (0 : Nat) Option.none) ((0 : Nat) + (1 : Nat)))) =
 Bool.true ∧ Go.World.frozen? (Go.World.setCell (Go.World.alloc w (Go.Obj.cells #[Go.Value.int Go.IntKind.u8 (0 : Int), Go.Value.int Go.IntKind.i64 (0 : Int), Go.Value.string (ByteArray.mk #[])] (31 :
 Nat))) (Go.Addr.add (Go.Addr.mk (Array.size (Go.World.heap w)) (0 : Nat) Option.none) (0 : Nat)) (Go.Value.int Go.IntKind.u8 (1 : Int))) (Go.Addr.add (Go.Addr.mk (Array.size (Go.World.heap w)) (0 :
 Nat) Option.none) ((0 : Nat) + (1 : Nat))) = Bool.false) ∧ (Option.isSome (Go.World.cell? (Go.World.setCell (Go.World.setCell (Go.World.alloc w (Go.Obj.cells #[Go.Value.int Go.IntKind.u8 (0 : Int),
 Go.Value.int Go.IntKind.i64 (0 : Int), Go.Value.string (ByteArray.mk #[])] (31 : Nat))) (Go.Addr.add (Go.Addr.mk (Array.size (Go.World.heap w)) (0 : Nat) Option.none) (0 : Nat)) (Go.Value.int
 Go.IntKind.u8 (1 : Int))) (Go.Addr.add (Go.Addr.mk (Array.size (Go.World.heap w)) (0 : Nat) Option.none) ((0 : Nat) + (1 : Nat))) (Go.Value.int Go.IntKind.i64 n)) (Go.Addr.add (Go.Addr.mk (Array.size
 (Go.World.heap w)) (0 : Nat) Option.none) ((0 : Nat) + (1 : Nat) + (1 : Nat)))) = Bool.true ∧ Go.World.frozen? (Go.World.setCell (Go.World.setCell (Go.World.alloc w (Go.Obj.cells #[Go.Value.int
 Go.IntKind.u8 (0 : Int), Go.Value.int Go.IntKind.i64 (0 : Int), Go.Value.string (ByteArray.mk #[])] (31 : Nat))) (Go.Addr.add (Go.Addr.mk (Array.size (Go.World.heap w)) (0 : Nat) Option.none) (0 :
 Nat)) (Go.Value.int Go.IntKind.u8 (1 : Int))) (Go.Addr.add (Go.Addr.mk (Array.size (Go.World.heap w)) (0 : Nat) Option.none) ((0 : Nat) + (1 : Nat))) (Go.Value.int Go.IntKind.i64 n)) (Go.Addr.add
 (Go.Addr.mk (Array.size (Go.World.heap w)) (0 : Nat) Option.none) ((0 : Nat) + (1 : Nat) + (1 : Nat))) = Bool.false) ∧ ∃ (x : Int), Go.World.cell? (Go.World.setCell (Go.World.setCell (Go.World.setCell
 (Go.World.alloc w (Go.Obj.cells #[Go.Value.int Go.IntKind.u8 (0 : Int), Go.Value.int Go.IntKind.i64 (0 : Int), Go.Value.string (ByteArray.mk #[])] (31 : Nat))) (Go.Addr.add (Go.Addr.mk (Array.size
 (Go.World.heap w)) (0 : Nat) Option.none) (0 : Nat)) (Go.Value.int Go.IntKind.u8 (1 : Int))) (Go.Addr.add (Go.Addr.mk (Array.size (Go.World.heap w)) (0 : Nat) Option.none) ((0 : Nat) + (1 : Nat)))
 (Go.Value.int Go.IntKind.i64 n)) (Go.Addr.add (Go.Addr.mk (Array.size (Go.World.heap w)) (0 : Nat) Option.none) ((0 : Nat) + (1 : Nat) + (1 : Nat))) (Go.Value.string (ByteArray.mk #[]))) (Go.Addr.add
 (Go.Addr.mk (Array.size (Go.World.heap w)) (0 : Nat) Option.none) (0 : Nat)) = Option.some (Go.Value.int Go.IntKind.u8 x) ∧ ∃ (x_1 : Int), Go.World.cell? (Go.World.setCell (Go.World.setCell
 (Go.World.setCell (Go.World.alloc w (Go.Obj.cells #[Go.Value.int Go.IntKind.u8 (0 : Int), Go.Value.int Go.IntKind.i64 (0 : Int), Go.Value.string (ByteArray.mk #[])] (31 : Nat))) (Go.Addr.add
 (Go.Addr.mk (Array.size (Go.World.heap w)) (0 : Nat) Option.none) (0 : Nat)) (Go.Value.int Go.IntKind.u8 (1 : Int))) (Go.Addr.add (Go.Addr.mk (Array.size (Go.World.heap w)) (0 : Nat) Option.none) ((0 :
 Nat) + (1 : Nat))) (Go.Value.int Go.IntKind.i64 n)) (Go.Addr.add (Go.Addr.mk (Array.size (Go.World.heap w)) (0 : Nat) Option.none) ((0 : Nat) + (1 : Nat) + (1 : Nat))) (Go.Value.string (ByteArray.mk
 #[]))) (Go.Addr.add (Go.Addr.mk (Array.size (Go.World.heap w)) (0 : Nat) Option.none) ((0 : Nat) + (1 : Nat))) = Option.some (Go.Value.int Go.IntKind.i64 x_1) ∧ ∃ (x_2 : ByteArray), Go.World.cell?
 (Go.World.setCell (Go.World.setCell (Go.World.setCell (Go.World.alloc w (Go.Obj.cells #[Go.Value.int Go.IntKind.u8 (0 : Int), Go.Value.int Go.IntKind.i64 (0 : Int), Go.Value.string (ByteArray.mk #[])]
 (31 : Nat))) (Go.Addr.add (Go.Addr.mk (Array.size (Go.World.heap w)) (0 : Nat) Option.none) (0 : Nat)) (Go.Value.int Go.IntKind.u8 (1 : Int))) (Go.Addr.add (Go.Addr.mk (Array.size (Go.World.heap w)) (0
 : Nat) Option.none) ((0 : Nat) + (1 : Nat))) (Go.Value.int Go.IntKind.i64 n)) (Go.Addr.add (Go.Addr.mk (Array.size (Go.World.heap w)) (0 : Nat) Option.none) ((0 : Nat) + (1 : Nat) + (1 : Nat)))
 (Go.Value.string (ByteArray.mk #[]))) (Go.Addr.add (Go.Addr.mk (Array.size (Go.World.heap w)) (0 : Nat) Option.none) ((0 : Nat) + (1 : Nat) + (1 : Nat))) = Option.some (Go.Value.string x_2) ∧ K
 (Go.Value.agg #[Go.Value.int Go.IntKind.u8 x, Go.Value.int Go.IntKind.i64 x_1, Go.Value.string x_2]) (Go.World.setCell (Go.World.setCell (Go.World.setCell (Go.World.alloc w (Go.Obj.cells #[Go.Value.int
 Go.IntKind.u8 (0 : Int), Go.Value.int Go.IntKind.i64 (0 : Int), Go.Value.string (ByteArray.mk #[])] (31 : Nat))) (Go.Addr.add (Go.Addr.mk (Array.size (Go.World.heap w)) (0 : Nat) Option.none) (0 :
 Nat)) (Go.Value.int Go.IntKind.u8 (1 : Int))) (Go.Addr.add (Go.Addr.mk (Array.size (Go.World.heap w)) (0 : Nat) Option.none) ((0 : Nat) + (1 : Nat))) (Go.Value.int Go.IntKind.i64 n)) (Go.Addr.add
 (Go.Addr.mk (Array.size (Go.World.heap w)) (0 : Nat) Option.none) ((0 : Nat) + (1 : Nat) + (1 : Nat))) (Go.Value.string (ByteArray.mk #[])))
theorem cardindexlow_Num.eq (n : Int) (w : World) (K : Value → World → Prop) : cardindexlow_Num.W n w K = fnW Try.prog Try.f49 .auto [.int .i64 n] w K := by kernel_rfl
theorem cardindexlow_Num.calls (ok : Okay Try.prog) {n : Int} {w : World} {K : Value → World → Prop} (h : cardindexlow_Num.W n w K) : CallsV Try.prog 49 #[.int .i64 n] w K :=
  fnW_calls ok Try.func49 (an := .auto) (args := [.int .i64 n]) (by rw [← cardindexlow_Num.eq]; exact h)
noncomputable def cardindexlow_Text.W : ByteArray → World → (Value → World → Prop) → Prop := fun (s : ByteArray) (w : Go.World) (K : Go.Value → Go.World → Prop) => (Option.isSome (Go.World.cell?
 (Go.World.alloc w (Go.Obj.cells #[Go.Value.int Go.IntKind.u8 (0 : Int), Go.Value.int Go.IntKind.i64 (0 : Int), Go.Value.string (ByteArray.mk #[])] (31 : Nat))) (Go.Addr.add (Go.Addr.mk (Array.size
 (Go.World.heap w)) (0 : Nat) Option.none) (0 : Nat))) = Bool.true ∧ Go.World.frozen? (Go.World.alloc w (Go.Obj.cells #[Go.Value.int Go.IntKind.u8 (0 : Int), Go.Value.int Go.IntKind.i64 (0 : Int),
 Go.Value.string (ByteArray.mk #[])] (31 : Nat))) (Go.Addr.add (Go.Addr.mk (Array.size (Go.World.heap w)) (0 : Nat) Option.none) (0 : Nat)) = Bool.false) ∧ (Option.isSome (Go.World.cell?
 (Go.World.setCell (Go.World.alloc w (Go.Obj.cells #[Go.Value.int Go.IntKind.u8 (0 : Int), Go.Value.int Go.IntKind.i64 (0 : Int), Go.Value.string (ByteArray.mk #[])] (31 : Nat))) (Go.Addr.add
 (Go.Addr.mk (Array.size (Go.World.heap w)) (0 : Nat) Option.none) (0 : Nat)) (Go.Value.int Go.IntKind.u8 (2 : Int))) (Go.Addr.add (Go.Addr.mk (Array.size (Go.World.heap w)) (0 : Nat) Option.none) ((0 :
 Nat) + (1 : Nat)))) = Bool.true ∧ Go.World.frozen? (Go.World.setCell (Go.World.alloc w (Go.Obj.cells #[Go.Value.int Go.IntKind.u8 (0 : Int), Go.Value.int Go.IntKind.i64 (0 : Int), Go.Value.string
 (ByteArray.mk #[])] (31 : Nat))) (Go.Addr.add (Go.Addr.mk (Array.size (Go.World.heap w)) (0 : Nat) Option.none) (0 : Nat)) (Go.Value.int Go.IntKind.u8 (2 : Int))) (Go.Addr.add (Go.Addr.mk (Array.size
 (Go.World.heap w)) (0 : Nat) Option.none) ((0 : Nat) + (1 : Nat))) = Bool.false) ∧ (Option.isSome (Go.World.cell? (Go.World.setCell (Go.World.setCell (Go.World.alloc w (Go.Obj.cells #[Go.Value.int
 Go.IntKind.u8 (0 : Int), Go.Value.int Go.IntKind.i64 (0 : Int), Go.Value.string (ByteArray.mk #[])] (31 : Nat))) (Go.Addr.add (Go.Addr.mk (Array.size (Go.World.heap w)) (0 : Nat) Option.none) (0 :
 Nat)) (Go.Value.int Go.IntKind.u8 (2 : Int))) (Go.Addr.add (Go.Addr.mk (Array.size (Go.World.heap w)) (0 : Nat) Option.none) ((0 : Nat) + (1 : Nat))) (Go.Value.int Go.IntKind.i64 (0 : Int)))
 (Go.Addr.add (Go.Addr.mk (Array.size (Go.World.heap w)) (0 : Nat) Option.none) ((0 : Nat) + (1 : Nat) + (1 : Nat)))) = Bool.true ∧ Go.World.frozen? (Go.World.setCell (Go.World.setCell (Go.World.alloc w
 (Go.Obj.cells #[Go.Value.int Go.IntKind.u8 (0 : Int), Go.Value.int Go.IntKind.i64 (0 : Int), Go.Value.string (ByteArray.mk #[])] (31 : Nat))) (Go.Addr.add (Go.Addr.mk (Array.size (Go.World.heap w)) (0
 : Nat) Option.none) (0 : Nat)) (Go.Value.int Go.IntKind.u8 (2 : Int))) (Go.Addr.add (Go.Addr.mk (Array.size (Go.World.heap w)) (0 : Nat) Option.none) ((0 : Nat) + (1 : Nat))) (Go.Value.int
 Go.IntKind.i64 (0 : Int))) (Go.Addr.add (Go.Addr.mk (Array.size (Go.World.heap w)) (0 : Nat) Option.none) ((0 : Nat) + (1 : Nat) + (1 : Nat))) = Bool.false) ∧ ∃ (x : Int), Go.World.cell?
 (Go.World.setCell (Go.World.setCell (Go.World.setCell (Go.World.alloc w (Go.Obj.cells #[Go.Value.int Go.IntKind.u8 (0 : Int), Go.Value.int Go.IntKind.i64 (0 : Int), Go.Value.string (ByteArray.mk #[])]
 (31 : Nat))) (Go.Addr.add (Go.Addr.mk (Array.size (Go.World.heap w)) (0 : Nat) Option.none) (0 : Nat)) (Go.Value.int Go.IntKind.u8 (2 : Int))) (Go.Addr.add (Go.Addr.mk (Array.size (Go.World.heap w)) (0
 : Nat) Option.none) ((0 : Nat) + (1 : Nat))) (Go.Value.int Go.IntKind.i64 (0 : Int))) (Go.Addr.add (Go.Addr.mk (Array.size (Go.World.heap w)) (0 : Nat) Option.none) ((0 : Nat) + (1 : Nat) + (1 : Nat)))
 (Go.Value.string s)) (Go.Addr.add (Go.Addr.mk (Array.size (Go.World.heap w)) (0 : Nat) Option.none) (0 : Nat)) = Option.some (Go.Value.int Go.IntKind.u8 x) ∧ ∃ (x_1 : Int), Go.World.cell?
 (Go.World.setCell (Go.World.setCell (Go.World.setCell (Go.World.alloc w (Go.Obj.cells #[Go.Value.int Go.IntKind.u8 (0 : Int), Go.Value.int Go.IntKind.i64 (0 : Int), Go.Value.string (ByteArray.mk #[])]
 (31 : Nat))) (Go.Addr.add (Go.Addr.mk (Array.size (Go.World.heap w)) (0 : Nat) Option.none) (0 : Nat)) (Go.Value.int Go.IntKind.u8 (2 : Int))) (Go.Addr.add (Go.Addr.mk (Array.size (Go.World.heap w)) (0
 : Nat) Option.none) ((0 : Nat) + (1 : Nat))) (Go.Value.int Go.IntKind.i64 (0 : Int))) (Go.Addr.add (Go.Addr.mk (Array.size (Go.World.heap w)) (0 : Nat) Option.none) ((0 : Nat) + (1 : Nat) + (1 : Nat)))
 (Go.Value.string s)) (Go.Addr.add (Go.Addr.mk (Array.size (Go.World.heap w)) (0 : Nat) Option.none) ((0 : Nat) + (1 : Nat))) = Option.some (Go.Value.int Go.IntKind.i64 x_1) ∧ ∃ (x_2 : ByteArray),
 Go.World.cell? (Go.World.setCell (Go.World.setCell (Go.World.setCell (Go.World.alloc w (Go.Obj.cells #[Go.Value.int Go.IntKind.u8 (0 : Int), Go.Value.int Go.IntKind.i64 (0 : Int), Go.Value.string
 (ByteArray.mk #[])] (31 : Nat))) (Go.Addr.add (Go.Addr.mk (Array.size (Go.World.heap w)) (0 : Nat) Option.none) (0 : Nat)) (Go.Value.int Go.IntKind.u8 (2 : Int))) (Go.Addr.add (Go.Addr.mk (Array.size
 (Go.World.heap w)) (0 : Nat) Option.none) ((0 : Nat) + (1 : Nat))) (Go.Value.int Go.IntKind.i64 (0 : Int))) (Go.Addr.add (Go.Addr.mk (Array.size (Go.World.heap w)) (0 : Nat) Option.none) ((0 : Nat) +
 (1 : Nat) + (1 : Nat))) (Go.Value.string s)) (Go.Addr.add (Go.Addr.mk (Array.size (Go.World.heap w)) (0 : Nat) Option.none) ((0 : Nat) + (1 : Nat) + (1 : Nat))) = Option.some (Go.Value.string x_2) ∧ K
 (Go.Value.agg #[Go.Value.int Go.IntKind.u8 x, Go.Value.int Go.IntKind.i64 x_1, Go.Value.string x_2]) (Go.World.setCell (Go.World.setCell (Go.World.setCell (Go.World.alloc w (Go.Obj.cells #[Go.Value.int
 Go.IntKind.u8 (0 : Int), Go.Value.int Go.IntKind.i64 (0 : Int), Go.Value.string (ByteArray.mk #[])] (31 : Nat))) (Go.Addr.add (Go.Addr.mk (Array.size (Go.World.heap w)) (0 : Nat) Option.none) (0 :
 Nat)) (Go.Value.int Go.IntKind.u8 (2 : Int))) (Go.Addr.add (Go.Addr.mk (Array.size (Go.World.heap w)) (0 : Nat) Option.none) ((0 : Nat) + (1 : Nat))) (Go.Value.int Go.IntKind.i64 (0 : Int)))
 (Go.Addr.add (Go.Addr.mk (Array.size (Go.World.heap w)) (0 : Nat) Option.none) ((0 : Nat) + (1 : Nat) + (1 : Nat))) (Go.Value.string s))
theorem cardindexlow_Text.eq (s : ByteArray) (w : World) (K : Value → World → Prop) : cardindexlow_Text.W s w K = fnW Try.prog Try.f50 .auto [.string s] w K := by kernel_rfl
theorem cardindexlow_Text.calls (ok : Okay Try.prog) {s : ByteArray} {w : World} {K : Value → World → Prop} (h : cardindexlow_Text.W s w K) : CallsV Try.prog 50 #[.string s] w K :=
  fnW_calls ok Try.func50 (an := .auto) (args := [.string s]) (by rw [← cardindexlow_Text.eq]; exact h)
noncomputable def value_Right.W : Int → Int → ByteArray → World → (Value → World → Prop) → Prop := fun (v0 v1 : Int) (v2 : ByteArray) (w : Go.World) (K : Go.Value → Go.World → Prop) => ∃ (x : Int),
 Go.World.cell? (Go.World.alloc w (Go.Obj.cells #[Go.Value.int Go.IntKind.u8 v0, Go.Value.int Go.IntKind.i64 v1, Go.Value.string v2] (31 : Nat))) (Go.Addr.add (Go.Addr.mk (Array.size (Go.World.heap w))
 (0 : Nat) Option.none) (0 : Nat)) = Option.some (Go.Value.int Go.IntKind.u8 x) ∧ bif Decidable.decide (x = (0 : Int)) then ∃ (x : Int), Go.World.cell? (Go.World.alloc w (Go.Obj.cells #[Go.Value.int
 Go.IntKind.u8 v0, Go.Value.int Go.IntKind.i64 v1, Go.Value.string v2] (31 : Nat))) (Go.Addr.add (Go.Addr.mk (Array.size (Go.World.heap w)) (0 : Nat) Option.none) (1 : Nat)) = Option.some (Go.Value.int
 Go.IntKind.i64 x) ∧ bif Decidable.decide (x = (0 : Int)) then ∃ (x : ByteArray), Go.World.cell? (Go.World.alloc w (Go.Obj.cells #[Go.Value.int Go.IntKind.u8 v0, Go.Value.int Go.IntKind.i64 v1,
 Go.Value.string v2] (31 : Nat))) (Go.Addr.add (Go.Addr.mk (Array.size (Go.World.heap w)) (0 : Nat) Option.none) (2 : Nat)) = Option.some (Go.Value.string x) ∧ K (Go.Value.bool (ByteArray.toList x ==
 ByteArray.toList (ByteArray.mk #[]))) (Go.World.alloc w (Go.Obj.cells #[Go.Value.int Go.IntKind.u8 v0, Go.Value.int Go.IntKind.i64 v1, Go.Value.string v2] (31 : Nat))) else K (Go.Value.bool Bool.false)
 (Go.World.alloc w (Go.Obj.cells #[Go.Value.int Go.IntKind.u8 v0, Go.Value.int Go.IntKind.i64 v1, Go.Value.string v2] (31 : Nat))) else bif Decidable.decide (x = (1 : Int)) then ∃ (x : ByteArray),
 Go.World.cell? (Go.World.alloc w (Go.Obj.cells #[Go.Value.int Go.IntKind.u8 v0, Go.Value.int Go.IntKind.i64 v1, Go.Value.string v2] (31 : Nat))) (Go.Addr.add (Go.Addr.mk (Array.size (Go.World.heap w))
 (0 : Nat) Option.none) (2 : Nat)) = Option.some (Go.Value.string x) ∧ K (Go.Value.bool (ByteArray.toList x == ByteArray.toList (ByteArray.mk #[]))) (Go.World.alloc w (Go.Obj.cells #[Go.Value.int
 Go.IntKind.u8 v0, Go.Value.int Go.IntKind.i64 v1, Go.Value.string v2] (31 : Nat))) else bif Decidable.decide (x = (2 : Int)) then bif Decidable.decide (x = (2 : Int)) then ∃ (x : Int), Go.World.cell?
 (Go.World.alloc w (Go.Obj.cells #[Go.Value.int Go.IntKind.u8 v0, Go.Value.int Go.IntKind.i64 v1, Go.Value.string v2] (31 : Nat))) (Go.Addr.add (Go.Addr.mk (Array.size (Go.World.heap w)) (0 : Nat)
 Option.none) (1 : Nat)) = Option.some (Go.Value.int Go.IntKind.i64 x) ∧ bif Decidable.decide (x = (0 : Int)) then ∃ (x : ByteArray), Go.World.cell? (Go.World.alloc w (Go.Obj.cells #[Go.Value.int
 Go.IntKind.u8 v0, Go.Value.int Go.IntKind.i64 v1, Go.Value.string v2] (31 : Nat))) (Go.Addr.add (Go.Addr.mk (Array.size (Go.World.heap w)) (0 : Nat) Option.none) (2 : Nat)) = Option.some
 (Go.Value.string x) ∧ K (Go.Value.bool (Decidable.decide ((↑(ByteArray.size x) : Int) ≤ (65536 : Int)))) (Go.World.alloc w (Go.Obj.cells #[Go.Value.int Go.IntKind.u8 v0, Go.Value.int Go.IntKind.i64 v1,
 Go.Value.string v2] (31 : Nat))) else K (Go.Value.bool Bool.false) (Go.World.alloc w (Go.Obj.cells #[Go.Value.int Go.IntKind.u8 v0, Go.Value.int Go.IntKind.i64 v1, Go.Value.string v2] (31 : Nat))) else
 K (Go.Value.bool Bool.false) (Go.World.alloc w (Go.Obj.cells #[Go.Value.int Go.IntKind.u8 v0, Go.Value.int Go.IntKind.i64 v1, Go.Value.string v2] (31 : Nat))) else bif Decidable.decide (x = (3 : Int))
 then ∃ (x : Int), Go.World.cell? (Go.World.alloc w (Go.Obj.cells #[Go.Value.int Go.IntKind.u8 v0, Go.Value.int Go.IntKind.i64 v1, Go.Value.string v2] (31 : Nat))) (Go.Addr.add (Go.Addr.mk (Array.size
 (Go.World.heap w)) (0 : Nat) Option.none) (1 : Nat)) = Option.some (Go.Value.int Go.IntKind.i64 x) ∧ bif Decidable.decide (x = (0 : Int)) then ∃ (x : ByteArray), Go.World.cell? (Go.World.alloc w
 (Go.Obj.cells #[Go.Value.int Go.IntKind.u8 v0, Go.Value.int Go.IntKind.i64 v1, Go.Value.string v2] (31 : Nat))) (Go.Addr.add (Go.Addr.mk (Array.size (Go.World.heap w)) (0 : Nat) Option.none) (2 : Nat))
 = Option.some (Go.Value.string x) ∧ K (Go.Value.bool (Decidable.decide ((↑(ByteArray.size x) : Int) ≤ (65536 : Int)))) (Go.World.alloc w (Go.Obj.cells #[Go.Value.int Go.IntKind.u8 v0, Go.Value.int
 Go.IntKind.i64 v1, Go.Value.string v2] (31 : Nat))) else K (Go.Value.bool Bool.false) (Go.World.alloc w (Go.Obj.cells #[Go.Value.int Go.IntKind.u8 v0, Go.Value.int Go.IntKind.i64 v1, Go.Value.string
 v2] (31 : Nat))) else K (Go.Value.bool Bool.false) (Go.World.alloc w (Go.Obj.cells #[Go.Value.int Go.IntKind.u8 v0, Go.Value.int Go.IntKind.i64 v1, Go.Value.string v2] (31 : Nat)))
theorem value_Right.eq (v0 : Int) (v1 : Int) (v2 : ByteArray) (w : World) (K : Value → World → Prop) : value_Right.W v0 v1 v2 w K = fnW Try.prog Try.f31 .auto [.agg #[.int .u8 v0, .int .i64 v1, .string v2]] w K := by kernel_rfl
theorem value_Right.calls (ok : Okay Try.prog) {v0 : Int} {v1 : Int} {v2 : ByteArray} {w : World} {K : Value → World → Prop} (h : value_Right.W v0 v1 v2 w K) : CallsV Try.prog 31 #[.agg #[.int .u8 v0, .int .i64 v1, .string v2]] w K :=
  fnW_calls ok Try.func31 (an := .auto) (args := [.agg #[.int .u8 v0, .int .i64 v1, .string v2]]) (by rw [← value_Right.eq]; exact h)
noncomputable def record_Key.W : Option Addr → Nat → Nat → Option Addr → Nat → Nat → World → (Value → World → Prop) → Prop := fun (row_A : Option Go.Addr) (row_n row_c : Nat) (desc_A : Option Go.Addr)
 (desc_n desc_c : Nat) (w : Go.World) (K : Go.Value → Go.World → Prop) => Go.Sx.CallsV Go.Proofs.Try.prog (57 : Nat) #[Go.Value.slice row_A row_n row_c] w fun (v : Go.Value) (w' : Go.World) => ∃ (x :
 Int), v = Go.Value.int Go.IntKind.i64 x ∧ bif !Decidable.decide (x = (0 : Int)) then K (Go.Value.tuple #[Go.Value.slice Option.none (0 : Nat) (0 : Nat), Go.Value.int Go.IntKind.i64 x]) w' else bif
 !Decidable.decide ((↑desc_n : Int) = (↑row_n : Int)) then K (Go.Value.tuple #[Go.Value.slice Option.none (0 : Nat) (0 : Nat), Go.Value.int Go.IntKind.i64 (2 : Int)]) w' else ∃ (I : Option Go.Addr → Nat
 → Nat → Int → Go.World → Prop), ∃ (μ : Option Go.Addr → Nat → Nat → Int → Go.World → Nat), I Option.none (0 : Nat) (0 : Nat) (0 : Int) w' ∧ ∀ (x : Option Go.Addr) (x_1 x_2 : Nat) (x_3 : Int) (w :
 Go.World), I x x_1 x_2 x_3 w → bif Decidable.decide (x_3 < (↑row_n : Int)) then ∃ (ad : Go.Addr), row_A = Option.some ad ∧ ((0 : Int) ≤ x_3 ∧ x_3 < (↑row_n : Int)) ∧ ∃ (x_4 : Int), Go.World.cell? w
 (Go.Addr.add (Go.Addr.add ad (Int.toNat x_3 * (3 : Nat))) (0 : Nat)) = Option.some (Go.Value.int Go.IntKind.u8 x_4) ∧ ∃ (x_5 : Int), Go.World.cell? w (Go.Addr.add (Go.Addr.add ad (Int.toNat x_3 * (3 :
 Nat))) ((0 : Nat) + (1 : Nat))) = Option.some (Go.Value.int Go.IntKind.i64 x_5) ∧ ∃ (x_6 : ByteArray), Go.World.cell? w (Go.Addr.add (Go.Addr.add ad (Int.toNat x_3 * (3 : Nat))) ((0 : Nat) + (1 : Nat)
 + (1 : Nat))) = Option.some (Go.Value.string x_6) ∧ (Option.isSome (Go.World.cell? (Go.World.alloc w (Go.Obj.cells #[Go.Value.int Go.IntKind.u8 (0 : Int), Go.Value.int Go.IntKind.i64 (0 : Int),
 Go.Value.string (ByteArray.mk #[])] (31 : Nat))) (Go.Addr.add (Go.Addr.mk (Array.size (Go.World.heap w)) (0 : Nat) Option.none) (0 : Nat))) = Bool.true ∧ Go.World.frozen? (Go.World.alloc w
 (Go.Obj.cells #[Go.Value.int Go.IntKind.u8 (0 : Int), Go.Value.int Go.IntKind.i64 (0 : Int), Go.Value.string (ByteArray.mk #[])] (31 : Nat))) (Go.Addr.add (Go.Addr.mk (Array.size (Go.World.heap w)) (0
 : Nat) Option.none) (0 : Nat)) = Bool.false) ∧ (Option.isSome (Go.World.cell? (Go.World.setCell (Go.World.alloc w (Go.Obj.cells #[Go.Value.int Go.IntKind.u8 (0 : Int), Go.Value.int Go.IntKind.i64 (0 :
 Int), Go.Value.string (ByteArray.mk #[])] (31 : Nat))) (Go.Addr.add (Go.Addr.mk (Array.size (Go.World.heap w)) (0 : Nat) Option.none) (0 : Nat)) (Go.Value.int Go.IntKind.u8 x_4)) (Go.Addr.add
 (Go.Addr.mk (Array.size (Go.World.heap w)) (0 : Nat) Option.none) ((0 : Nat) + (1 : Nat)))) = Bool.true ∧ Go.World.frozen? (Go.World.setCell (Go.World.alloc w (Go.Obj.cells #[Go.Value.int Go.IntKind.u8
 (0 : Int), Go.Value.int Go.IntKind.i64 (0 : Int), Go.Value.string (ByteArray.mk #[])] (31 : Nat))) (Go.Addr.add (Go.Addr.mk (Array.size (Go.World.heap w)) (0 : Nat) Option.none) (0 : Nat))
 (Go.Value.int Go.IntKind.u8 x_4)) (Go.Addr.add (Go.Addr.mk (Array.size (Go.World.heap w)) (0 : Nat) Option.none) ((0 : Nat) + (1 : Nat))) = Bool.false) ∧ (Option.isSome (Go.World.cell?
 (Go.World.setCell (Go.World.setCell (Go.World.alloc w (Go.Obj.cells #[Go.Value.int Go.IntKind.u8 (0 : Int), Go.Value.int Go.IntKind.i64 (0 : Int), Go.Value.string (ByteArray.mk #[])] (31 : Nat)))
 (Go.Addr.add (Go.Addr.mk (Array.size (Go.World.heap w)) (0 : Nat) Option.none) (0 : Nat)) (Go.Value.int Go.IntKind.u8 x_4)) (Go.Addr.add (Go.Addr.mk (Array.size (Go.World.heap w)) (0 : Nat)
 Option.none) ((0 : Nat) + (1 : Nat))) (Go.Value.int Go.IntKind.i64 x_5)) (Go.Addr.add (Go.Addr.mk (Array.size (Go.World.heap w)) (0 : Nat) Option.none) ((0 : Nat) + (1 : Nat) + (1 : Nat)))) = Bool.true
 ∧ Go.World.frozen? (Go.World.setCell (Go.World.setCell (Go.World.alloc w (Go.Obj.cells #[Go.Value.int Go.IntKind.u8 (0 : Int), Go.Value.int Go.IntKind.i64 (0 : Int), Go.Value.string (ByteArray.mk #[])]
 (31 : Nat))) (Go.Addr.add (Go.Addr.mk (Array.size (Go.World.heap w)) (0 : Nat) Option.none) (0 : Nat)) (Go.Value.int Go.IntKind.u8 x_4)) (Go.Addr.add (Go.Addr.mk (Array.size (Go.World.heap w)) (0 :
 Nat) Option.none) ((0 : Nat) + (1 : Nat))) (Go.Value.int Go.IntKind.i64 x_5)) (Go.Addr.add (Go.Addr.mk (Array.size (Go.World.heap w)) (0 : Nat) Option.none) ((0 : Nat) + (1 : Nat) + (1 : Nat))) =
 Bool.false) ∧ ∃ (x_7 : Int), Go.World.cell? (Go.World.setCell (Go.World.setCell (Go.World.setCell (Go.World.alloc w (Go.Obj.cells #[Go.Value.int Go.IntKind.u8 (0 : Int), Go.Value.int Go.IntKind.i64 (0
 : Int), Go.Value.string (ByteArray.mk #[])] (31 : Nat))) (Go.Addr.add (Go.Addr.mk (Array.size (Go.World.heap w)) (0 : Nat) Option.none) (0 : Nat)) (Go.Value.int Go.IntKind.u8 x_4)) (Go.Addr.add
 (Go.Addr.mk (Array.size (Go.World.heap w)) (0 : Nat) Option.none) ((0 : Nat) + (1 : Nat))) (Go.Value.int Go.IntKind.i64 x_5)) (Go.Addr.add (Go.Addr.mk (Array.size (Go.World.heap w)) (0 : Nat)
 Option.none) ((0 : Nat) + (1 : Nat) + (1 : Nat))) (Go.Value.string x_6)) (Go.Addr.add (Go.Addr.mk (Array.size (Go.World.heap w)) (0 : Nat) Option.none) (0 : Nat)) = Option.some (Go.Value.int
 Go.IntKind.u8 x_7) ∧ ∃ (x_8 : Int), Go.World.cell? (Go.World.setCell (Go.World.setCell (Go.World.setCell (Go.World.alloc w (Go.Obj.cells #[Go.Value.int Go.IntKind.u8 (0 : Int), Go.Value.int
 Go.IntKind.i64 (0 : Int), Go.Value.string (ByteArray.mk #[])] (31 : Nat))) (Go.Addr.add (Go.Addr.mk (Array.size (Go.World.heap w)) (0 : Nat) Option.none) (0 : Nat)) (Go.Value.int Go.IntKind.u8 x_4))
 (Go.Addr.add (Go.Addr.mk (Array.size (Go.World.heap w)) (0 : Nat) Option.none) ((0 : Nat) + (1 : Nat))) (Go.Value.int Go.IntKind.i64 x_5)) (Go.Addr.add (Go.Addr.mk (Array.size (Go.World.heap w)) (0 :
 Nat) Option.none) ((0 : Nat) + (1 : Nat) + (1 : Nat))) (Go.Value.string x_6)) (Go.Addr.add (Go.Addr.mk (Array.size (Go.World.heap w)) (0 : Nat) Option.none) ((0 : Nat) + (1 : Nat))) = Option.some
 (Go.Value.int Go.IntKind.i64 x_8) ∧ ∃ (x_9 : ByteArray), Go.World.cell? (Go.World.setCell (Go.World.setCell (Go.World.setCell (Go.World.alloc w (Go.Obj.cells #[Go.Value.int Go.IntKind.u8 (0 : Int),
 Go.Value.int Go.IntKind.i64 (0 : Int), Go.Value.string (ByteArray.mk #[])] (31 : Nat))) (Go.Addr.add (Go.Addr.mk (Array.size (Go.World.heap w)) (0 : Nat) Option.none) (0 : Nat)) (Go.Value.int
 Go.IntKind.u8 x_4)) (Go.Addr.add (Go.Addr.mk (Array.size (Go.World.heap w)) (0 : Nat) Option.none) ((0 : Nat) + (1 : Nat))) (Go.Value.int Go.IntKind.i64 x_5)) (Go.Addr.add (Go.Addr.mk (Array.size
 (Go.World.heap w)) (0 : Nat) Option.none) ((0 : Nat) + (1 : Nat) + (1 : Nat))) (Go.Value.string x_6)) (Go.Addr.add (Go.Addr.mk (Array.size (Go.World.heap w)) (0 : Nat) Option.none) ((0 : Nat) + (1 :
 Nat) + (1 : Nat))) = Option.some (Go.Value.string x_9) ∧ Go.Sx.CallsV Go.Proofs.Try.prog (58 : Nat) #[Go.Value.slice x x_1 x_2, Go.Value.agg #[Go.Value.int Go.IntKind.u8 x_7, Go.Value.int
 Go.IntKind.i64 x_8, Go.Value.string x_9]] (Go.World.setCell (Go.World.setCell (Go.World.setCell (Go.World.alloc w (Go.Obj.cells #[Go.Value.int Go.IntKind.u8 (0 : Int), Go.Value.int Go.IntKind.i64 (0 :
 Int), Go.Value.string (ByteArray.mk #[])] (31 : Nat))) (Go.Addr.add (Go.Addr.mk (Array.size (Go.World.heap w)) (0 : Nat) Option.none) (0 : Nat)) (Go.Value.int Go.IntKind.u8 x_4)) (Go.Addr.add
 (Go.Addr.mk (Array.size (Go.World.heap w)) (0 : Nat) Option.none) ((0 : Nat) + (1 : Nat))) (Go.Value.int Go.IntKind.i64 x_5)) (Go.Addr.add (Go.Addr.mk (Array.size (Go.World.heap w)) (0 : Nat)
 Option.none) ((0 : Nat) + (1 : Nat) + (1 : Nat))) (Go.Value.string x_6)) fun (v : Go.Value) (w' : Go.World) => ∃ (x_10 : Option Go.Addr), ∃ (x_11 : Nat), ∃ (x_12 : Nat), v = Go.Value.slice x_10 x_11
 x_12 ∧ ∃ (ad : Go.Addr), desc_A = Option.some ad ∧ ((0 : Int) ≤ x_3 ∧ x_3 < (↑desc_n : Int)) ∧ ∃ (x_13 : Bool), Go.World.cell? w' (Go.Addr.add ad (Int.toNat x_3 * (1 : Nat))) = Option.some
 (Go.Value.bool x_13) ∧ bif x_13 then ((0 : Int) ≤ (↑x_1 : Int) ∧ (↑x_1 : Int) ≤ (↑x_11 : Int)) ∧ Go.Sx.CallsV Go.Proofs.Try.prog (59 : Nat) #[Go.Value.slice (Go.Sx.cutAt x_10 x_12 (Int.toNat (↑x_1 :
 Int)) (1 : Nat)) (x_11 - Int.toNat (↑x_1 : Int)) (x_12 - Int.toNat (↑x_1 : Int))] w' fun (v : Go.Value) (w' : Go.World) => v = Go.Value.tuple #[] ∧ bif Decidable.decide ((1048576 : Int) < (↑x_11 :
 Int)) then K (Go.Value.tuple #[Go.Value.slice Option.none (0 : Nat) (0 : Nat), Go.Value.int Go.IntKind.i64 (3 : Int)]) w' else I x_10 x_11 x_12 (Go.IntKind.wrap Go.IntKind.i64 (x_3 + (1 : Int))) w' ∧ μ
 x_10 x_11 x_12 (Go.IntKind.wrap Go.IntKind.i64 (x_3 + (1 : Int))) w' < μ x x_1 x_2 x_3 w else bif Decidable.decide ((1048576 : Int) < (↑x_11 : Int)) then K (Go.Value.tuple #[Go.Value.slice Option.none
 (0 : Nat) (0 : Nat), Go.Value.int Go.IntKind.i64 (3 : Int)]) w' else I x_10 x_11 x_12 (Go.IntKind.wrap Go.IntKind.i64 (x_3 + (1 : Int))) w' ∧ μ x_10 x_11 x_12 (Go.IntKind.wrap Go.IntKind.i64 (x_3 + (1
 : Int))) w' < μ x x_1 x_2 x_3 w else K (Go.Value.tuple #[Go.Value.slice x x_1 x_2, Go.Value.int Go.IntKind.i64 (0 : Int)]) w
theorem record_Key.eq (row_A : Option Addr) (row_n : Nat) (row_c : Nat) (desc_A : Option Addr) (desc_n : Nat) (desc_c : Nat) (w : World) (K : Value → World → Prop) : record_Key.W row_A row_n row_c desc_A desc_n desc_c w K = fnW Try.prog Try.f36 (.seq .auto (.seq .auto (.seq .auto (.seq .auto (.seq (.seq .auto (.block (.loop [(7, .one .slc), (23, .one (.int .i64))] .auto))) .auto))))) [.slice row_A row_n row_c, .slice desc_A desc_n desc_c] w K := by kernel_rfl
theorem record_Key.calls (ok : Okay Try.prog) {row_A : Option Addr} {row_n : Nat} {row_c : Nat} {desc_A : Option Addr} {desc_n : Nat} {desc_c : Nat} {w : World} {K : Value → World → Prop} (h : record_Key.W row_A row_n row_c desc_A desc_n desc_c w K) : CallsV Try.prog 36 #[.slice row_A row_n row_c, .slice desc_A desc_n desc_c] w K :=
  fnW_calls ok Try.func36 (an := (.seq .auto (.seq .auto (.seq .auto (.seq .auto (.seq (.seq .auto (.block (.loop [(7, .one .slc), (23, .one (.int .i64))] .auto))) .auto)))))) (args := [.slice row_A row_n row_c, .slice desc_A desc_n desc_c]) (by rw [← record_Key.eq]; exact h)
noncomputable def record_Put.W : Option Addr → Nat → Nat → World → (Value → World → Prop) → Prop := fun (row_A : Option Go.Addr) (row_n row_c : Nat) (w : Go.World) (K : Go.Value → Go.World → Prop) =>
 Go.Sx.CallsV Go.Proofs.Try.prog (57 : Nat) #[Go.Value.slice row_A row_n row_c] w fun (v : Go.Value) (w' : Go.World) => ∃ (x : Int), v = Go.Value.int Go.IntKind.i64 x ∧ bif !Decidable.decide (x = (0 :
 Int)) then K (Go.Value.tuple #[Go.Value.slice Option.none (0 : Nat) (0 : Nat), Go.Value.int Go.IntKind.i64 x]) w' else Go.Sx.CallsV Go.Proofs.Try.prog (60 : Nat) #[Go.Value.slice Option.none (0 : Nat)
 (0 : Nat), Go.Value.int Go.IntKind.u64 (Go.IntKind.wrap Go.IntKind.u64 (↑row_n : Int))] w' fun (v : Go.Value) (w' : Go.World) => ∃ (x : Option Go.Addr), ∃ (x_1 : Nat), ∃ (x_2 : Nat), v = Go.Value.slice
 x x_1 x_2 ∧ ∃ (I : Option Go.Addr → Nat → Nat → Int → Go.World → Prop), ∃ (μ : Option Go.Addr → Nat → Nat → Int → Go.World → Nat), I x x_1 x_2 (0 : Int) w' ∧ ∀ (x : Option Go.Addr) (x_3 x_4 : Nat) (x_5
 : Int) (w : Go.World), I x x_3 x_4 x_5 w → bif Decidable.decide (x_5 < (↑row_n : Int)) then ∃ (ad : Go.Addr), row_A = Option.some ad ∧ ((0 : Int) ≤ x_5 ∧ x_5 < (↑row_n : Int)) ∧ ∃ (x_6 : Int),
 Go.World.cell? w (Go.Addr.add (Go.Addr.add ad (Int.toNat x_5 * (3 : Nat))) (0 : Nat)) = Option.some (Go.Value.int Go.IntKind.u8 x_6) ∧ ∃ (x_7 : Int), Go.World.cell? w (Go.Addr.add (Go.Addr.add ad
 (Int.toNat x_5 * (3 : Nat))) ((0 : Nat) + (1 : Nat))) = Option.some (Go.Value.int Go.IntKind.i64 x_7) ∧ ∃ (x_8 : ByteArray), Go.World.cell? w (Go.Addr.add (Go.Addr.add ad (Int.toNat x_5 * (3 : Nat)))
 ((0 : Nat) + (1 : Nat) + (1 : Nat))) = Option.some (Go.Value.string x_8) ∧ (Option.isSome (Go.World.cell? (Go.World.alloc w (Go.Obj.cells #[Go.Value.int Go.IntKind.u8 (0 : Int), Go.Value.int
 Go.IntKind.i64 (0 : Int), Go.Value.string (ByteArray.mk #[])] (31 : Nat))) (Go.Addr.add (Go.Addr.mk (Array.size (Go.World.heap w)) (0 : Nat) Option.none) (0 : Nat))) = Bool.true ∧ Go.World.frozen?
 (Go.World.alloc w (Go.Obj.cells #[Go.Value.int Go.IntKind.u8 (0 : Int), Go.Value.int Go.IntKind.i64 (0 : Int), Go.Value.string (ByteArray.mk #[])] (31 : Nat))) (Go.Addr.add (Go.Addr.mk (Array.size
 (Go.World.heap w)) (0 : Nat) Option.none) (0 : Nat)) = Bool.false) ∧ (Option.isSome (Go.World.cell? (Go.World.setCell (Go.World.alloc w (Go.Obj.cells #[Go.Value.int Go.IntKind.u8 (0 : Int),
 Go.Value.int Go.IntKind.i64 (0 : Int), Go.Value.string (ByteArray.mk #[])] (31 : Nat))) (Go.Addr.add (Go.Addr.mk (Array.size (Go.World.heap w)) (0 : Nat) Option.none) (0 : Nat)) (Go.Value.int
 Go.IntKind.u8 x_6)) (Go.Addr.add (Go.Addr.mk (Array.size (Go.World.heap w)) (0 : Nat) Option.none) ((0 : Nat) + (1 : Nat)))) = Bool.true ∧ Go.World.frozen? (Go.World.setCell (Go.World.alloc w
 (Go.Obj.cells #[Go.Value.int Go.IntKind.u8 (0 : Int), Go.Value.int Go.IntKind.i64 (0 : Int), Go.Value.string (ByteArray.mk #[])] (31 : Nat))) (Go.Addr.add (Go.Addr.mk (Array.size (Go.World.heap w)) (0
 : Nat) Option.none) (0 : Nat)) (Go.Value.int Go.IntKind.u8 x_6)) (Go.Addr.add (Go.Addr.mk (Array.size (Go.World.heap w)) (0 : Nat) Option.none) ((0 : Nat) + (1 : Nat))) = Bool.false) ∧ (Option.isSome
 (Go.World.cell? (Go.World.setCell (Go.World.setCell (Go.World.alloc w (Go.Obj.cells #[Go.Value.int Go.IntKind.u8 (0 : Int), Go.Value.int Go.IntKind.i64 (0 : Int), Go.Value.string (ByteArray.mk #[])]
 (31 : Nat))) (Go.Addr.add (Go.Addr.mk (Array.size (Go.World.heap w)) (0 : Nat) Option.none) (0 : Nat)) (Go.Value.int Go.IntKind.u8 x_6)) (Go.Addr.add (Go.Addr.mk (Array.size (Go.World.heap w)) (0 :
 Nat) Option.none) ((0 : Nat) + (1 : Nat))) (Go.Value.int Go.IntKind.i64 x_7)) (Go.Addr.add (Go.Addr.mk (Array.size (Go.World.heap w)) (0 : Nat) Option.none) ((0 : Nat) + (1 : Nat) + (1 : Nat)))) =
 Bool.true ∧ Go.World.frozen? (Go.World.setCell (Go.World.setCell (Go.World.alloc w (Go.Obj.cells #[Go.Value.int Go.IntKind.u8 (0 : Int), Go.Value.int Go.IntKind.i64 (0 : Int), Go.Value.string
 (ByteArray.mk #[])] (31 : Nat))) (Go.Addr.add (Go.Addr.mk (Array.size (Go.World.heap w)) (0 : Nat) Option.none) (0 : Nat)) (Go.Value.int Go.IntKind.u8 x_6)) (Go.Addr.add (Go.Addr.mk (Array.size
 (Go.World.heap w)) (0 : Nat) Option.none) ((0 : Nat) + (1 : Nat))) (Go.Value.int Go.IntKind.i64 x_7)) (Go.Addr.add (Go.Addr.mk (Array.size (Go.World.heap w)) (0 : Nat) Option.none) ((0 : Nat) + (1 :
 Nat) + (1 : Nat))) = Bool.false) ∧ ∃ (x_9 : Int), Go.World.cell? (Go.World.setCell (Go.World.setCell (Go.World.setCell (Go.World.alloc w (Go.Obj.cells #[Go.Value.int Go.IntKind.u8 (0 : Int),
 Go.Value.int Go.IntKind.i64 (0 : Int), Go.Value.string (ByteArray.mk #[])] (31 : Nat))) (Go.Addr.add (Go.Addr.mk (Array.size (Go.World.heap w)) (0 : Nat) Option.none) (0 : Nat)) (Go.Value.int
 Go.IntKind.u8 x_6)) (Go.Addr.add (Go.Addr.mk (Array.size (Go.World.heap w)) (0 : Nat) Option.none) ((0 : Nat) + (1 : Nat))) (Go.Value.int Go.IntKind.i64 x_7)) (Go.Addr.add (Go.Addr.mk (Array.size
 (Go.World.heap w)) (0 : Nat) Option.none) ((0 : Nat) + (1 : Nat) + (1 : Nat))) (Go.Value.string x_8)) (Go.Addr.add (Go.Addr.mk (Array.size (Go.World.heap w)) (0 : Nat) Option.none) (0 : Nat)) =
 Option.some (Go.Value.int Go.IntKind.u8 x_9) ∧ ∃ (x_10 : Int), Go.World.cell? (Go.World.setCell (Go.World.setCell (Go.World.setCell (Go.World.alloc w (Go.Obj.cells #[Go.Value.int Go.IntKind.u8 (0 :
 Int), Go.Value.int Go.IntKind.i64 (0 : Int), Go.Value.string (ByteArray.mk #[])] (31 : Nat))) (Go.Addr.add (Go.Addr.mk (Array.size (Go.World.heap w)) (0 : Nat) Option.none) (0 : Nat)) (Go.Value.int
 Go.IntKind.u8 x_6)) (Go.Addr.add (Go.Addr.mk (Array.size (Go.World.heap w)) (0 : Nat) Option.none) ((0 : Nat) + (1 : Nat))) (Go.Value.int Go.IntKind.i64 x_7)) (Go.Addr.add (Go.Addr.mk (Array.size
 (Go.World.heap w)) (0 : Nat) Option.none) ((0 : Nat) + (1 : Nat) + (1 : Nat))) (Go.Value.string x_8)) (Go.Addr.add (Go.Addr.mk (Array.size (Go.World.heap w)) (0 : Nat) Option.none) ((0 : Nat) + (1 :
 Nat))) = Option.some (Go.Value.int Go.IntKind.i64 x_10) ∧ ∃ (x_11 : ByteArray), Go.World.cell? (Go.World.setCell (Go.World.setCell (Go.World.setCell (Go.World.alloc w (Go.Obj.cells #[Go.Value.int
 Go.IntKind.u8 (0 : Int), Go.Value.int Go.IntKind.i64 (0 : Int), Go.Value.string (ByteArray.mk #[])] (31 : Nat))) (Go.Addr.add (Go.Addr.mk (Array.size (Go.World.heap w)) (0 : Nat) Option.none) (0 :
 Nat)) (Go.Value.int Go.IntKind.u8 x_6)) (Go.Addr.add (Go.Addr.mk (Array.size (Go.World.heap w)) (0 : Nat) Option.none) ((0 : Nat) + (1 : Nat))) (Go.Value.int Go.IntKind.i64 x_7)) (Go.Addr.add
 (Go.Addr.mk (Array.size (Go.World.heap w)) (0 : Nat) Option.none) ((0 : Nat) + (1 : Nat) + (1 : Nat))) (Go.Value.string x_8)) (Go.Addr.add (Go.Addr.mk (Array.size (Go.World.heap w)) (0 : Nat)
 Option.none) ((0 : Nat) + (1 : Nat) + (1 : Nat))) = Option.some (Go.Value.string x_11) ∧ Go.Sx.CallsV Go.Proofs.Try.prog (61 : Nat) #[Go.Value.agg #[Go.Value.int Go.IntKind.u8 x_9, Go.Value.int
 Go.IntKind.i64 x_10, Go.Value.string x_11]] (Go.World.setCell (Go.World.setCell (Go.World.setCell (Go.World.alloc w (Go.Obj.cells #[Go.Value.int Go.IntKind.u8 (0 : Int), Go.Value.int Go.IntKind.i64 (0
 : Int), Go.Value.string (ByteArray.mk #[])] (31 : Nat))) (Go.Addr.add (Go.Addr.mk (Array.size (Go.World.heap w)) (0 : Nat) Option.none) (0 : Nat)) (Go.Value.int Go.IntKind.u8 x_6)) (Go.Addr.add
 (Go.Addr.mk (Array.size (Go.World.heap w)) (0 : Nat) Option.none) ((0 : Nat) + (1 : Nat))) (Go.Value.int Go.IntKind.i64 x_7)) (Go.Addr.add (Go.Addr.mk (Array.size (Go.World.heap w)) (0 : Nat)
 Option.none) ((0 : Nat) + (1 : Nat) + (1 : Nat))) (Go.Value.string x_8)) fun (v : Go.Value) (w' : Go.World) => ∃ (x_12 : Int), v = Go.Value.int Go.IntKind.u64 x_12 ∧ Go.Sx.CallsV Go.Proofs.Try.prog (60
 : Nat) #[Go.Value.slice x x_3 x_4, Go.Value.int Go.IntKind.u64 x_12] w' fun (v : Go.Value) (w' : Go.World) => ∃ (x_13 : Option Go.Addr), ∃ (x_14 : Nat), ∃ (x_15 : Nat), v = Go.Value.slice x_13 x_14
 x_15 ∧ I x_13 x_14 x_15 (Go.IntKind.wrap Go.IntKind.i64 (x_5 + (1 : Int))) w' ∧ μ x_13 x_14 x_15 (Go.IntKind.wrap Go.IntKind.i64 (x_5 + (1 : Int))) w' < μ x x_3 x_4 x_5 w else ∃ (I : Option Go.Addr →
 Nat → Nat → Int → Go.World → Prop), ∃ (μ : Option Go.Addr → Nat → Nat → Int → Go.World → Nat), I x x_3 x_4 (0 : Int) w ∧ ∀ (x : Option Go.Addr) (x_6 x_7 : Nat) (x_8 : Int) (w : Go.World), I x x_6 x_7
 x_8 w → bif Decidable.decide (x_8 < (↑row_n : Int)) then ∃ (ad : Go.Addr), row_A = Option.some ad ∧ ((0 : Int) ≤ x_8 ∧ x_8 < (↑row_n : Int)) ∧ ∃ (x_9 : Int), Go.World.cell? w (Go.Addr.add (Go.Addr.add
 ad (Int.toNat x_8 * (3 : Nat))) (0 : Nat)) = Option.some (Go.Value.int Go.IntKind.u8 x_9) ∧ ∃ (x_10 : Int), Go.World.cell? w (Go.Addr.add (Go.Addr.add ad (Int.toNat x_8 * (3 : Nat))) ((0 : Nat) + (1 :
 Nat))) = Option.some (Go.Value.int Go.IntKind.i64 x_10) ∧ ∃ (x_11 : ByteArray), Go.World.cell? w (Go.Addr.add (Go.Addr.add ad (Int.toNat x_8 * (3 : Nat))) ((0 : Nat) + (1 : Nat) + (1 : Nat))) =
 Option.some (Go.Value.string x_11) ∧ (Option.isSome (Go.World.cell? (Go.World.alloc w (Go.Obj.cells #[Go.Value.int Go.IntKind.u8 (0 : Int), Go.Value.int Go.IntKind.i64 (0 : Int), Go.Value.string
 (ByteArray.mk #[])] (31 : Nat))) (Go.Addr.add (Go.Addr.mk (Array.size (Go.World.heap w)) (0 : Nat) Option.none) (0 : Nat))) = Bool.true ∧ Go.World.frozen? (Go.World.alloc w (Go.Obj.cells #[Go.Value.int
 Go.IntKind.u8 (0 : Int), Go.Value.int Go.IntKind.i64 (0 : Int), Go.Value.string (ByteArray.mk #[])] (31 : Nat))) (Go.Addr.add (Go.Addr.mk (Array.size (Go.World.heap w)) (0 : Nat) Option.none) (0 :
 Nat)) = Bool.false) ∧ (Option.isSome (Go.World.cell? (Go.World.setCell (Go.World.alloc w (Go.Obj.cells #[Go.Value.int Go.IntKind.u8 (0 : Int), Go.Value.int Go.IntKind.i64 (0 : Int), Go.Value.string
 (ByteArray.mk #[])] (31 : Nat))) (Go.Addr.add (Go.Addr.mk (Array.size (Go.World.heap w)) (0 : Nat) Option.none) (0 : Nat)) (Go.Value.int Go.IntKind.u8 x_9)) (Go.Addr.add (Go.Addr.mk (Array.size
 (Go.World.heap w)) (0 : Nat) Option.none) ((0 : Nat) + (1 : Nat)))) = Bool.true ∧ Go.World.frozen? (Go.World.setCell (Go.World.alloc w (Go.Obj.cells #[Go.Value.int Go.IntKind.u8 (0 : Int), Go.Value.int
 Go.IntKind.i64 (0 : Int), Go.Value.string (ByteArray.mk #[])] (31 : Nat))) (Go.Addr.add (Go.Addr.mk (Array.size (Go.World.heap w)) (0 : Nat) Option.none) (0 : Nat)) (Go.Value.int Go.IntKind.u8 x_9))
 (Go.Addr.add (Go.Addr.mk (Array.size (Go.World.heap w)) (0 : Nat) Option.none) ((0 : Nat) + (1 : Nat))) = Bool.false) ∧ (Option.isSome (Go.World.cell? (Go.World.setCell (Go.World.setCell
 (Go.World.alloc w (Go.Obj.cells #[Go.Value.int Go.IntKind.u8 (0 : Int), Go.Value.int Go.IntKind.i64 (0 : Int), Go.Value.string (ByteArray.mk #[])] (31 : Nat))) (Go.Addr.add (Go.Addr.mk (Array.size
 (Go.World.heap w)) (0 : Nat) Option.none) (0 : Nat)) (Go.Value.int Go.IntKind.u8 x_9)) (Go.Addr.add (Go.Addr.mk (Array.size (Go.World.heap w)) (0 : Nat) Option.none) ((0 : Nat) + (1 : Nat)))
 (Go.Value.int Go.IntKind.i64 x_10)) (Go.Addr.add (Go.Addr.mk (Array.size (Go.World.heap w)) (0 : Nat) Option.none) ((0 : Nat) + (1 : Nat) + (1 : Nat)))) = Bool.true ∧ Go.World.frozen? (Go.World.setCell
 (Go.World.setCell (Go.World.alloc w (Go.Obj.cells #[Go.Value.int Go.IntKind.u8 (0 : Int), Go.Value.int Go.IntKind.i64 (0 : Int), Go.Value.string (ByteArray.mk #[])] (31 : Nat))) (Go.Addr.add
 (Go.Addr.mk (Array.size (Go.World.heap w)) (0 : Nat) Option.none) (0 : Nat)) (Go.Value.int Go.IntKind.u8 x_9)) (Go.Addr.add (Go.Addr.mk (Array.size (Go.World.heap w)) (0 : Nat) Option.none) ((0 : Nat)
 + (1 : Nat))) (Go.Value.int Go.IntKind.i64 x_10)) (Go.Addr.add (Go.Addr.mk (Array.size (Go.World.heap w)) (0 : Nat) Option.none) ((0 : Nat) + (1 : Nat) + (1 : Nat))) = Bool.false) ∧ ∃ (x_12 : Int),
 Go.World.cell? (Go.World.setCell (Go.World.setCell (Go.World.setCell (Go.World.alloc w (Go.Obj.cells #[Go.Value.int Go.IntKind.u8 (0 : Int), Go.Value.int Go.IntKind.i64 (0 : Int), Go.Value.string
 (ByteArray.mk #[])] (31 : Nat))) (Go.Addr.add (Go.Addr.mk (Array.size (Go.World.heap w)) (0 : Nat) Option.none) (0 : Nat)) (Go.Value.int Go.IntKind.u8 x_9)) (Go.Addr.add (Go.Addr.mk (Array.size
 (Go.World.heap w)) (0 : Nat) Option.none) ((0 : Nat) + (1 : Nat))) (Go.Value.int Go.IntKind.i64 x_10)) (Go.Addr.add (Go.Addr.mk (Array.size (Go.World.heap w)) (0 : Nat) Option.none) ((0 : Nat) + (1 :
 Nat) + (1 : Nat))) (Go.Value.string x_11)) (Go.Addr.add (Go.Addr.mk (Array.size (Go.World.heap w)) (0 : Nat) Option.none) (0 : Nat)) = Option.some (Go.Value.int Go.IntKind.u8 x_12) ∧ bif
 Decidable.decide (x_12 = (1 : Int)) then ∃ (S : Go.World → Prop), S (Go.World.drew (Go.World.setCell (Go.World.setCell (Go.World.setCell (Go.World.alloc w (Go.Obj.cells #[Go.Value.int Go.IntKind.u8 (0
 : Int), Go.Value.int Go.IntKind.i64 (0 : Int), Go.Value.string (ByteArray.mk #[])] (31 : Nat))) (Go.Addr.add (Go.Addr.mk (Array.size (Go.World.heap w)) (0 : Nat) Option.none) (0 : Nat)) (Go.Value.int
 Go.IntKind.u8 x_9)) (Go.Addr.add (Go.Addr.mk (Array.size (Go.World.heap w)) (0 : Nat) Option.none) ((0 : Nat) + (1 : Nat))) (Go.Value.int Go.IntKind.i64 x_10)) (Go.Addr.add (Go.Addr.mk (Array.size
 (Go.World.heap w)) (0 : Nat) Option.none) ((0 : Nat) + (1 : Nat) + (1 : Nat))) (Go.Value.string x_11))) ∧ ∃ (x_13 : Int), (∀ (u : Go.World), S u → Go.World.cell? u (Go.Addr.add (Go.Addr.mk (Array.size
 (Go.World.heap w)) (0 : Nat) Option.none) (1 : Nat)) = Option.some (Go.Value.int Go.IntKind.i64 x_13)) ∧ ∃ (x_14 : Int), (∀ (u : Go.World), S u → Go.World.cell? u (Go.Addr.add (Go.Addr.mk (Array.size
 (Go.World.heap w)) (0 : Nat) Option.none) (1 : Nat)) = Option.some (Go.Value.int Go.IntKind.i64 x_14)) ∧ Go.Sx.CallsV Go.Proofs.Try.prog (63 : Nat) #[Go.Value.int Go.IntKind.i64 x_14] (Go.World.drew
 (Go.World.setCell (Go.World.setCell (Go.World.setCell (Go.World.alloc w (Go.Obj.cells #[Go.Value.int Go.IntKind.u8 (0 : Int), Go.Value.int Go.IntKind.i64 (0 : Int), Go.Value.string (ByteArray.mk #[])]
 (31 : Nat))) (Go.Addr.add (Go.Addr.mk (Array.size (Go.World.heap w)) (0 : Nat) Option.none) (0 : Nat)) (Go.Value.int Go.IntKind.u8 x_9)) (Go.Addr.add (Go.Addr.mk (Array.size (Go.World.heap w)) (0 :
 Nat) Option.none) ((0 : Nat) + (1 : Nat))) (Go.Value.int Go.IntKind.i64 x_10)) (Go.Addr.add (Go.Addr.mk (Array.size (Go.World.heap w)) (0 : Nat) Option.none) ((0 : Nat) + (1 : Nat) + (1 : Nat)))
 (Go.Value.string x_11))) fun (v : Go.Value) (w' : Go.World) => ∃ (x_15 : Int), v = Go.Value.int Go.IntKind.i64 x_15 ∧ ∃ (S' : Go.World → Prop), (∀ (u : Go.World), S' u → S u) ∧ S' w' ∧ Go.Sx.CallsV
 Go.Proofs.Try.prog (62 : Nat) #[Go.Value.slice x x_6 x_7, Go.Value.int Go.IntKind.u64 (Go.IntKind.wrap Go.IntKind.u64 x_13), Go.Value.int Go.IntKind.i64 x_15] w' fun (v : Go.Value) (w' : Go.World) => ∃
 (x_16 : Option Go.Addr), ∃ (x_17 : Nat), ∃ (x_18 : Nat), v = Go.Value.slice x_16 x_17 x_18 ∧ ∃ (S'_1 : Go.World → Prop), (∀ (u : Go.World), S'_1 u → S' u) ∧ S'_1 w' ∧ ∃ (x_19 : ByteArray),
 Go.World.cell? w' (Go.Addr.add (Go.Addr.mk (Array.size (Go.World.heap w)) (0 : Nat) Option.none) (2 : Nat)) = Option.some (Go.Value.string x_19) ∧ ∃ (x_20 : Option Go.Addr), ∃ (x_21 : Nat), ∃ (x_22 :
 Nat), ∃ (w'_1 : Go.World), Go.Sx.RunsTo Go.Proofs.Try.prog (Go.Builtin.append_ (Array.mk [(76 : Nat), (9 : Nat)]) (76 : Nat) #[Go.Value.slice x_16 x_17 x_18, Go.Value.string x_19]) w' (Go.Value.slice
 x_20 x_21 x_22) w'_1 ∧ I x_20 x_21 x_22 (Go.IntKind.wrap Go.IntKind.i64 (x_8 + (1 : Int))) w'_1 ∧ μ x_20 x_21 x_22 (Go.IntKind.wrap Go.IntKind.i64 (x_8 + (1 : Int))) w'_1 < μ x x_6 x_7 x_8 w else ∃
 (x_13 : ByteArray), Go.World.cell? (Go.World.setCell (Go.World.setCell (Go.World.setCell (Go.World.alloc w (Go.Obj.cells #[Go.Value.int Go.IntKind.u8 (0 : Int), Go.Value.int Go.IntKind.i64 (0 : Int),
 Go.Value.string (ByteArray.mk #[])] (31 : Nat))) (Go.Addr.add (Go.Addr.mk (Array.size (Go.World.heap w)) (0 : Nat) Option.none) (0 : Nat)) (Go.Value.int Go.IntKind.u8 x_9)) (Go.Addr.add (Go.Addr.mk
 (Array.size (Go.World.heap w)) (0 : Nat) Option.none) ((0 : Nat) + (1 : Nat))) (Go.Value.int Go.IntKind.i64 x_10)) (Go.Addr.add (Go.Addr.mk (Array.size (Go.World.heap w)) (0 : Nat) Option.none) ((0 :
 Nat) + (1 : Nat) + (1 : Nat))) (Go.Value.string x_11)) (Go.Addr.add (Go.Addr.mk (Array.size (Go.World.heap w)) (0 : Nat) Option.none) (2 : Nat)) = Option.some (Go.Value.string x_13) ∧ ∃ (x_14 : Option
 Go.Addr), ∃ (x_15 : Nat), ∃ (x_16 : Nat), ∃ (w' : Go.World), Go.Sx.RunsTo Go.Proofs.Try.prog (Go.Builtin.append_ (Array.mk [(76 : Nat), (9 : Nat)]) (76 : Nat) #[Go.Value.slice x x_6 x_7,
 Go.Value.string x_13]) (Go.World.setCell (Go.World.setCell (Go.World.setCell (Go.World.alloc w (Go.Obj.cells #[Go.Value.int Go.IntKind.u8 (0 : Int), Go.Value.int Go.IntKind.i64 (0 : Int),
 Go.Value.string (ByteArray.mk #[])] (31 : Nat))) (Go.Addr.add (Go.Addr.mk (Array.size (Go.World.heap w)) (0 : Nat) Option.none) (0 : Nat)) (Go.Value.int Go.IntKind.u8 x_9)) (Go.Addr.add (Go.Addr.mk
 (Array.size (Go.World.heap w)) (0 : Nat) Option.none) ((0 : Nat) + (1 : Nat))) (Go.Value.int Go.IntKind.i64 x_10)) (Go.Addr.add (Go.Addr.mk (Array.size (Go.World.heap w)) (0 : Nat) Option.none) ((0 :
 Nat) + (1 : Nat) + (1 : Nat))) (Go.Value.string x_11)) (Go.Value.slice x_14 x_15 x_16) w' ∧ I x_14 x_15 x_16 (Go.IntKind.wrap Go.IntKind.i64 (x_8 + (1 : Int))) w' ∧ μ x_14 x_15 x_16 (Go.IntKind.wrap
 Go.IntKind.i64 (x_8 + (1 : Int))) w' < μ x x_6 x_7 x_8 w else Go.Sx.CallsV Go.Proofs.Try.prog (64 : Nat) #[Go.Value.slice x x_6 x_7] w fun (v : Go.Value) (w' : Go.World) => ∃ (x : Option Go.Addr), ∃
 (x_9 : Nat), ∃ (x_10 : Nat), ∃ (x_11 : Int), v = Go.Value.tuple #[Go.Value.slice x x_9 x_10, Go.Value.int Go.IntKind.i64 x_11] ∧ K (Go.Value.tuple #[Go.Value.slice x x_9 x_10, Go.Value.int
 Go.IntKind.i64 x_11]) w'
theorem record_Put.eq (row_A : Option Addr) (row_n : Nat) (row_c : Nat) (w : World) (K : Value → World → Prop) : record_Put.W row_A row_n row_c w K = fnW Try.prog Try.f37 (.seq .auto (.seq .auto (.seq .auto (.seq (.seq .auto (.block (.loop [(5, .one .slc), (21, .one (.int .i64))] .auto))) (.seq (.seq .auto (.block (.loop [(5, .one .slc), (32, .one (.int .i64))] .auto))) .auto))))) [.slice row_A row_n row_c] w K := by kernel_rfl
theorem record_Put.calls (ok : Okay Try.prog) {row_A : Option Addr} {row_n : Nat} {row_c : Nat} {w : World} {K : Value → World → Prop} (h : record_Put.W row_A row_n row_c w K) : CallsV Try.prog 37 #[.slice row_A row_n row_c] w K :=
  fnW_calls ok Try.func37 (an := (.seq .auto (.seq .auto (.seq .auto (.seq (.seq .auto (.block (.loop [(5, .one .slc), (21, .one (.int .i64))] .auto))) (.seq (.seq .auto (.block (.loop [(5, .one .slc), (32, .one (.int .i64))] .auto))) .auto)))))) (args := [.slice row_A row_n row_c]) (by rw [← record_Put.eq]; exact h)
noncomputable def record_right.W : Option Addr → Nat → Nat → World → (Value → World → Prop) → Prop := fun (row_A : Option Go.Addr) (row_n row_c : Nat) (w : Go.World) (K : Go.Value → Go.World → Prop) =>
 bif Decidable.decide ((200 : Int) < (↑row_n : Int)) then K (Go.Value.int Go.IntKind.i64 (3 : Int)) w else Go.Sx.CallsV Go.Proofs.Try.prog (81 : Nat) #[Go.Value.slice row_A row_n row_c, Go.Value.func
 (Go.Fn.func (82 : Nat)) #[] #[]] w fun (v : Go.Value) (w' : Go.World) => ∃ (x : Bool), v = Go.Value.bool x ∧ bif x then K (Go.Value.int Go.IntKind.i64 (2 : Int)) w' else K (Go.Value.int Go.IntKind.i64
 (0 : Int)) w'
theorem record_right.eq (row_A : Option Addr) (row_n : Nat) (row_c : Nat) (w : World) (K : Value → World → Prop) : record_right.W row_A row_n row_c w K = fnW Try.prog Try.f57 .auto [.slice row_A row_n row_c] w K := by kernel_rfl
theorem record_right.calls (ok : Okay Try.prog) {row_A : Option Addr} {row_n : Nat} {row_c : Nat} {w : World} {K : Value → World → Prop} (h : record_right.W row_A row_n row_c w K) : CallsV Try.prog 57 #[.slice row_A row_n row_c] w K :=
  fnW_calls ok Try.func57 (an := .auto) (args := [.slice row_A row_n row_c]) (by rw [← record_right.eq]; exact h)
noncomputable def record_right_1.W : Int → Int → ByteArray → World → (Value → World → Prop) → Prop := fun (v0 v1 : Int) (v2 : ByteArray) (w : Go.World) (K : Go.Value → Go.World → Prop) => ∃ (x : Int),
 Go.World.cell? (Go.World.alloc w (Go.Obj.cells #[Go.Value.int Go.IntKind.u8 v0, Go.Value.int Go.IntKind.i64 v1, Go.Value.string v2] (31 : Nat))) (Go.Addr.add (Go.Addr.mk (Array.size (Go.World.heap w))
 (0 : Nat) Option.none) (0 : Nat)) = Option.some (Go.Value.int Go.IntKind.u8 x) ∧ ∃ (x_1 : Int), Go.World.cell? (Go.World.alloc w (Go.Obj.cells #[Go.Value.int Go.IntKind.u8 v0, Go.Value.int
 Go.IntKind.i64 v1, Go.Value.string v2] (31 : Nat))) (Go.Addr.add (Go.Addr.mk (Array.size (Go.World.heap w)) (0 : Nat) Option.none) ((0 : Nat) + (1 : Nat))) = Option.some (Go.Value.int Go.IntKind.i64
 x_1) ∧ ∃ (x_2 : ByteArray), Go.World.cell? (Go.World.alloc w (Go.Obj.cells #[Go.Value.int Go.IntKind.u8 v0, Go.Value.int Go.IntKind.i64 v1, Go.Value.string v2] (31 : Nat))) (Go.Addr.add (Go.Addr.mk
 (Array.size (Go.World.heap w)) (0 : Nat) Option.none) ((0 : Nat) + (1 : Nat) + (1 : Nat))) = Option.some (Go.Value.string x_2) ∧ Go.Sx.CallsV Go.Proofs.Try.prog (31 : Nat) #[Go.Value.agg #[Go.Value.int
 Go.IntKind.u8 x, Go.Value.int Go.IntKind.i64 x_1, Go.Value.string x_2]] (Go.World.alloc w (Go.Obj.cells #[Go.Value.int Go.IntKind.u8 v0, Go.Value.int Go.IntKind.i64 v1, Go.Value.string v2] (31 : Nat)))
 fun (v : Go.Value) (w' : Go.World) => ∃ (x : Bool), v = Go.Value.bool x ∧ K (Go.Value.bool !x) w'
theorem record_right_1.eq (v0 : Int) (v1 : Int) (v2 : ByteArray) (w : World) (K : Value → World → Prop) : record_right_1.W v0 v1 v2 w K = fnW Try.prog Try.f82 .auto [.agg #[.int .u8 v0, .int .i64 v1, .string v2]] w K := by kernel_rfl
theorem record_right_1.calls (ok : Okay Try.prog) {v0 : Int} {v1 : Int} {v2 : ByteArray} {w : World} {K : Value → World → Prop} (h : record_right_1.W v0 v1 v2 w K) : CallsV Try.prog 82 #[.agg #[.int .u8 v0, .int .i64 v1, .string v2]] w K :=
  fnW_calls ok Try.func82 (an := .auto) (args := [.agg #[.int .u8 v0, .int .i64 v1, .string v2]]) (by rw [← record_right_1.eq]; exact h)
noncomputable def record_part.W : Option Addr → Nat → Nat → Int → Int → ByteArray → World → (Value → World → Prop) → Prop := fun (out_A : Option Go.Addr) (out_n out_c : Nat) (v0 v1 : Int) (v2 :
 ByteArray) (w : Go.World) (K : Go.Value → Go.World → Prop) => ∃ (J : Go.World → Prop), (∀ (w_1 : Go.World), J w_1 → ∃ (x : ByteArray), Go.World.cell? w_1 (Go.Addr.add (Go.Addr.mk (Array.size
 (Go.World.heap (Go.World.alloc w (Go.Obj.cells #[Go.Value.slice out_A out_n out_c] (76 : Nat))))) (0 : Nat) Option.none) (2 : Nat)) = Option.some (Go.Value.string x) ∧ ∃ (I : Int → Go.World → Prop), ∃
 (μ : Int → Go.World → Nat), I (0 : Int) w_1 ∧ ∀ (x_1 : Int) (w_2 : Go.World), I x_1 w_2 → bif Decidable.decide (x_1 < (↑(ByteArray.size x) : Int)) then ∃ (x : ByteArray), Go.World.cell? w_2
 (Go.Addr.add (Go.Addr.mk (Array.size (Go.World.heap (Go.World.alloc w (Go.Obj.cells #[Go.Value.slice out_A out_n out_c] (76 : Nat))))) (0 : Nat) Option.none) (2 : Nat)) = Option.some (Go.Value.string
 x) ∧ ∃ (b : UInt8), ((0 : Int) ≤ x_1 ∧ x[Int.toNat x_1]? = Option.some b) ∧ Go.Sx.CallsV Go.Proofs.Try.prog (83 : Nat) #[Go.Value.int Go.IntKind.u8 (↑(UInt8.toNat b) : Int), Go.Value.pointer
 (Option.some (Go.Addr.mk (Array.size (Go.World.heap w)) (0 : Nat) Option.none))] w_2 fun (v : Go.Value) (w' : Go.World) => v = Go.Value.tuple #[] ∧ I (Go.IntKind.wrap Go.IntKind.i64 (x_1 + (1 : Int)))
 w' ∧ μ (Go.IntKind.wrap Go.IntKind.i64 (x_1 + (1 : Int))) w' < μ x_1 w_2 else ∃ (x : Option Go.Addr), ∃ (x_2 : Nat), ∃ (x_3 : Nat), Go.World.cell? w_2 (Go.Addr.mk (Array.size (Go.World.heap w)) (0 :
 Nat) Option.none) = Option.some (Go.Value.slice x x_2 x_3) ∧ ∃ (x_4 : Option Go.Addr), ∃ (x_5 : Nat), ∃ (x_6 : Nat), ∃ (w' : Go.World), Go.Sx.RunsTo Go.Proofs.Try.prog (Go.Builtin.append_ (Array.mk
 [(76 : Nat), (76 : Nat)]) (76 : Nat) #[Go.Value.slice x x_2 x_3, Go.Value.slice (Option.some (Go.Addr.mk (Array.size (Go.World.heap w_2)) (0 : Nat) Option.none)) (2 : Nat) (2 : Nat)]) (Go.World.alloc
 w_2 (Go.Obj.cells #[Go.Value.int Go.IntKind.u8 (0 : Int), Go.Value.int Go.IntKind.u8 (0 : Int)] (5 : Nat))) (Go.Value.slice x_4 x_5 x_6) w' ∧ K (Go.Value.slice x_4 x_5 x_6) w') ∧ ∃ (x : Int),
 Go.World.cell? (Go.World.alloc (Go.World.alloc w (Go.Obj.cells #[Go.Value.slice out_A out_n out_c] (76 : Nat))) (Go.Obj.cells #[Go.Value.int Go.IntKind.u8 v0, Go.Value.int Go.IntKind.i64 v1,
 Go.Value.string v2] (31 : Nat))) (Go.Addr.add (Go.Addr.mk (Array.size (Go.World.heap (Go.World.alloc w (Go.Obj.cells #[Go.Value.slice out_A out_n out_c] (76 : Nat))))) (0 : Nat) Option.none) (0 : Nat))
 = Option.some (Go.Value.int Go.IntKind.u8 x) ∧ bif Decidable.decide (x = (0 : Int)) then ∃ (x : Option Go.Addr), ∃ (x_1 : Nat), ∃ (x_2 : Nat), Go.World.cell? (Go.World.alloc (Go.World.alloc w
 (Go.Obj.cells #[Go.Value.slice out_A out_n out_c] (76 : Nat))) (Go.Obj.cells #[Go.Value.int Go.IntKind.u8 v0, Go.Value.int Go.IntKind.i64 v1, Go.Value.string v2] (31 : Nat))) (Go.Addr.mk (Array.size
 (Go.World.heap w)) (0 : Nat) Option.none) = Option.some (Go.Value.slice x x_1 x_2) ∧ ∃ (x_3 : Option Go.Addr), ∃ (x_4 : Nat), ∃ (x_5 : Nat), ∃ (w' : Go.World), Go.Sx.RunsTo Go.Proofs.Try.prog
 (Go.Builtin.append_ (Array.mk [(76 : Nat), (76 : Nat)]) (76 : Nat) #[Go.Value.slice x x_1 x_2, Go.Value.slice (Option.some (Go.Addr.mk (Array.size (Go.World.heap (Go.World.alloc (Go.World.alloc w
 (Go.Obj.cells #[Go.Value.slice out_A out_n out_c] (76 : Nat))) (Go.Obj.cells #[Go.Value.int Go.IntKind.u8 v0, Go.Value.int Go.IntKind.i64 v1, Go.Value.string v2] (31 : Nat))))) (0 : Nat) Option.none))
 (1 : Nat) (1 : Nat)]) (Go.World.alloc (Go.World.alloc (Go.World.alloc w (Go.Obj.cells #[Go.Value.slice out_A out_n out_c] (76 : Nat))) (Go.Obj.cells #[Go.Value.int Go.IntKind.u8 v0, Go.Value.int
 Go.IntKind.i64 v1, Go.Value.string v2] (31 : Nat))) (Go.Obj.cells #[Go.Value.int Go.IntKind.u8 (1 : Int)] (5 : Nat))) (Go.Value.slice x_3 x_4 x_5) w' ∧ K (Go.Value.slice x_3 x_4 x_5) w' else bif
 Decidable.decide (x = (1 : Int)) then ∃ (S : Go.World → Prop), S (Go.World.drew (Go.World.alloc (Go.World.alloc w (Go.Obj.cells #[Go.Value.slice out_A out_n out_c] (76 : Nat))) (Go.Obj.cells
 #[Go.Value.int Go.IntKind.u8 v0, Go.Value.int Go.IntKind.i64 v1, Go.Value.string v2] (31 : Nat)))) ∧ ∃ (x : Option Go.Addr), ∃ (x_1 : Nat), ∃ (x_2 : Nat), (∀ (u : Go.World), S u → Go.World.cell? u
 (Go.Addr.mk (Array.size (Go.World.heap w)) (0 : Nat) Option.none) = Option.some (Go.Value.slice x x_1 x_2)) ∧ ∃ (x_3 : Int), (∀ (u : Go.World), S u → Go.World.cell? u (Go.Addr.add (Go.Addr.mk
 (Array.size (Go.World.heap (Go.World.alloc w (Go.Obj.cells #[Go.Value.slice out_A out_n out_c] (76 : Nat))))) (0 : Nat) Option.none) (1 : Nat)) = Option.some (Go.Value.int Go.IntKind.i64 x_3)) ∧ ∃ (S'
 : Go.World → Prop), (∀ (u : Go.World), S' u → S u) ∧ S' (Go.World.alloc (Go.World.drew (Go.World.alloc (Go.World.alloc w (Go.Obj.cells #[Go.Value.slice out_A out_n out_c] (76 : Nat))) (Go.Obj.cells
 #[Go.Value.int Go.IntKind.u8 v0, Go.Value.int Go.IntKind.i64 v1, Go.Value.string v2] (31 : Nat)))) (Go.Obj.cells #[Go.Value.int Go.IntKind.u8 (2 : Int)] (5 : Nat))) ∧ ∃ (x_4 : Option Go.Addr), ∃ (x_5 :
 Nat), ∃ (x_6 : Nat), ∃ (w' : Go.World), Go.Sx.RunsTo Go.Proofs.Try.prog (Go.Builtin.append_ (Array.mk [(76 : Nat), (76 : Nat)]) (76 : Nat) #[Go.Value.slice x x_1 x_2, Go.Value.slice (Option.some
 (Go.Addr.mk (Array.size (Go.World.heap (Go.World.drew (Go.World.alloc (Go.World.alloc w (Go.Obj.cells #[Go.Value.slice out_A out_n out_c] (76 : Nat))) (Go.Obj.cells #[Go.Value.int Go.IntKind.u8 v0,
 Go.Value.int Go.IntKind.i64 v1, Go.Value.string v2] (31 : Nat)))))) (0 : Nat) Option.none)) (1 : Nat) (1 : Nat)]) (Go.World.alloc (Go.World.drew (Go.World.alloc (Go.World.alloc w (Go.Obj.cells
 #[Go.Value.slice out_A out_n out_c] (76 : Nat))) (Go.Obj.cells #[Go.Value.int Go.IntKind.u8 v0, Go.Value.int Go.IntKind.i64 v1, Go.Value.string v2] (31 : Nat)))) (Go.Obj.cells #[Go.Value.int
 Go.IntKind.u8 (2 : Int)] (5 : Nat))) (Go.Value.slice x_4 x_5 x_6) w' ∧ ∃ (S'_1 : Go.World → Prop), (∀ (u : Go.World), S'_1 u → S' u) ∧ S'_1 w' ∧ Go.Sx.CallsV Go.Proofs.Try.prog (62 : Nat)
 #[Go.Value.slice x_4 x_5 x_6, Go.Value.int Go.IntKind.u64 (Go.IntKind.wrap Go.IntKind.u64 (↑(BitVec.toNat (BitVec.ofInt (64 : Nat) (Go.IntKind.wrap Go.IntKind.u64 x_3) ^^^ BitVec.ofInt (64 : Nat)
 (9223372036854775808 : Int))) : Int)), Go.Value.int Go.IntKind.i64 (8 : Int)] w' fun (v : Go.Value) (w' : Go.World) => ∃ (x : Option Go.Addr), ∃ (x_7 : Nat), ∃ (x_8 : Nat), v = Go.Value.slice x x_7 x_8
 ∧ ∃ (S' : Go.World → Prop), (∀ (u : Go.World), S' u → S'_1 u) ∧ S' w' ∧ K (Go.Value.slice x x_7 x_8) w' else bif Decidable.decide (x = (2 : Int)) then ∃ (x : Option Go.Addr), ∃ (x_1 : Nat), ∃ (x_2 :
 Nat), Go.World.cell? (Go.World.alloc (Go.World.alloc w (Go.Obj.cells #[Go.Value.slice out_A out_n out_c] (76 : Nat))) (Go.Obj.cells #[Go.Value.int Go.IntKind.u8 v0, Go.Value.int Go.IntKind.i64 v1,
 Go.Value.string v2] (31 : Nat))) (Go.Addr.mk (Array.size (Go.World.heap w)) (0 : Nat) Option.none) = Option.some (Go.Value.slice x x_1 x_2) ∧ ∃ (x_3 : Option Go.Addr), ∃ (x_4 : Nat), ∃ (x_5 : Nat), ∃
 (w' : Go.World), Go.Sx.RunsTo Go.Proofs.Try.prog (Go.Builtin.append_ (Array.mk [(76 : Nat), (76 : Nat)]) (76 : Nat) #[Go.Value.slice x x_1 x_2, Go.Value.slice (Option.some (Go.Addr.mk (Array.size
 (Go.World.heap (Go.World.alloc (Go.World.alloc w (Go.Obj.cells #[Go.Value.slice out_A out_n out_c] (76 : Nat))) (Go.Obj.cells #[Go.Value.int Go.IntKind.u8 v0, Go.Value.int Go.IntKind.i64 v1,
 Go.Value.string v2] (31 : Nat))))) (0 : Nat) Option.none)) (1 : Nat) (1 : Nat)]) (Go.World.alloc (Go.World.alloc (Go.World.alloc w (Go.Obj.cells #[Go.Value.slice out_A out_n out_c] (76 : Nat)))
 (Go.Obj.cells #[Go.Value.int Go.IntKind.u8 v0, Go.Value.int Go.IntKind.i64 v1, Go.Value.string v2] (31 : Nat))) (Go.Obj.cells #[Go.Value.int Go.IntKind.u8 (3 : Int)] (5 : Nat))) (Go.Value.slice x_3 x_4
 x_5) w' ∧ (Option.isSome (Go.World.cell? w' (Go.Addr.add (Go.Addr.mk (Array.size (Go.World.heap w)) (0 : Nat) Option.none) (0 : Nat))) = Bool.true ∧ Go.World.frozen? w' (Go.Addr.add (Go.Addr.mk
 (Array.size (Go.World.heap w)) (0 : Nat) Option.none) (0 : Nat)) = Bool.false) ∧ J (Go.World.setCell w' (Go.Addr.add (Go.Addr.mk (Array.size (Go.World.heap w)) (0 : Nat) Option.none) (0 : Nat))
 (Go.Value.slice x_3 x_4 x_5)) else ∃ (x : Option Go.Addr), ∃ (x_1 : Nat), ∃ (x_2 : Nat), Go.World.cell? (Go.World.alloc (Go.World.alloc w (Go.Obj.cells #[Go.Value.slice out_A out_n out_c] (76 : Nat)))
 (Go.Obj.cells #[Go.Value.int Go.IntKind.u8 v0, Go.Value.int Go.IntKind.i64 v1, Go.Value.string v2] (31 : Nat))) (Go.Addr.mk (Array.size (Go.World.heap w)) (0 : Nat) Option.none) = Option.some
 (Go.Value.slice x x_1 x_2) ∧ ∃ (x_3 : Option Go.Addr), ∃ (x_4 : Nat), ∃ (x_5 : Nat), ∃ (w' : Go.World), Go.Sx.RunsTo Go.Proofs.Try.prog (Go.Builtin.append_ (Array.mk [(76 : Nat), (76 : Nat)]) (76 :
 Nat) #[Go.Value.slice x x_1 x_2, Go.Value.slice (Option.some (Go.Addr.mk (Array.size (Go.World.heap (Go.World.alloc (Go.World.alloc w (Go.Obj.cells #[Go.Value.slice out_A out_n out_c] (76 : Nat)))
 (Go.Obj.cells #[Go.Value.int Go.IntKind.u8 v0, Go.Value.int Go.IntKind.i64 v1, Go.Value.string v2] (31 : Nat))))) (0 : Nat) Option.none)) (1 : Nat) (1 : Nat)]) (Go.World.alloc (Go.World.alloc
 (Go.World.alloc w (Go.Obj.cells #[Go.Value.slice out_A out_n out_c] (76 : Nat))) (Go.Obj.cells #[Go.Value.int Go.IntKind.u8 v0, Go.Value.int Go.IntKind.i64 v1, Go.Value.string v2] (31 : Nat)))
 (Go.Obj.cells #[Go.Value.int Go.IntKind.u8 (4 : Int)] (5 : Nat))) (Go.Value.slice x_3 x_4 x_5) w' ∧ (Option.isSome (Go.World.cell? w' (Go.Addr.add (Go.Addr.mk (Array.size (Go.World.heap w)) (0 : Nat)
 Option.none) (0 : Nat))) = Bool.true ∧ Go.World.frozen? w' (Go.Addr.add (Go.Addr.mk (Array.size (Go.World.heap w)) (0 : Nat) Option.none) (0 : Nat)) = Bool.false) ∧ J (Go.World.setCell w' (Go.Addr.add
 (Go.Addr.mk (Array.size (Go.World.heap w)) (0 : Nat) Option.none) (0 : Nat)) (Go.Value.slice x_3 x_4 x_5))
theorem record_part.eq (out_A : Option Addr) (out_n : Nat) (out_c : Nat) (v0 : Int) (v1 : Int) (v2 : ByteArray) (w : World) (K : Value → World → Prop) : record_part.W out_A out_n out_c v0 v1 v2 w K = fnW Try.prog Try.f58 (.seq .auto (.join [] .auto (.seq .auto (.seq (.seq .auto (.block (.loop [(36, .one (.int .i64))] .auto))) .auto)))) [.slice out_A out_n out_c, .agg #[.int .u8 v0, .int .i64 v1, .string v2]] w K := by kernel_rfl
theorem record_part.calls (ok : Okay Try.prog) {out_A : Option Addr} {out_n : Nat} {out_c : Nat} {v0 : Int} {v1 : Int} {v2 : ByteArray} {w : World} {K : Value → World → Prop} (h : record_part.W out_A out_n out_c v0 v1 v2 w K) : CallsV Try.prog 58 #[.slice out_A out_n out_c, .agg #[.int .u8 v0, .int .i64 v1, .string v2]] w K :=
  fnW_calls ok Try.func58 (an := (.seq .auto (.join [] .auto (.seq .auto (.seq (.seq .auto (.block (.loop [(36, .one (.int .i64))] .auto))) .auto))))) (args := [.slice out_A out_n out_c, .agg #[.int .u8 v0, .int .i64 v1, .string v2]]) (by rw [← record_part.eq]; exact h)
noncomputable def record_part_1.W : Int → Addr → World → (Value → World → Prop) → Prop := fun (c : Int) (a1 : Go.Addr) (w : Go.World) (K : Go.Value → Go.World → Prop) => ∃ (x : Option Go.Addr), ∃ (x_1
 : Nat), ∃ (x_2 : Nat), Go.World.cell? w a1 = Option.some (Go.Value.slice x x_1 x_2) ∧ ∃ (x_3 : Option Go.Addr), ∃ (x_4 : Nat), ∃ (x_5 : Nat), ∃ (w' : Go.World), Go.Sx.RunsTo Go.Proofs.Try.prog
 (Go.Builtin.append_ (Array.mk [(76 : Nat), (76 : Nat)]) (76 : Nat) #[Go.Value.slice x x_1 x_2, Go.Value.slice (Option.some (Go.Addr.mk (Array.size (Go.World.heap w)) (0 : Nat) Option.none)) (1 : Nat)
 (1 : Nat)]) (Go.World.alloc w (Go.Obj.cells #[Go.Value.int Go.IntKind.u8 c] (5 : Nat))) (Go.Value.slice x_3 x_4 x_5) w' ∧ (Option.isSome (Go.World.cell? w' (Go.Addr.add a1 (0 : Nat))) = Bool.true ∧
 Go.World.frozen? w' (Go.Addr.add a1 (0 : Nat)) = Bool.false) ∧ bif Decidable.decide (c = (0 : Int)) then ∃ (x : Option Go.Addr), ∃ (x_6 : Nat), ∃ (x_7 : Nat), Go.World.cell? (Go.World.setCell w'
 (Go.Addr.add a1 (0 : Nat)) (Go.Value.slice x_3 x_4 x_5)) a1 = Option.some (Go.Value.slice x x_6 x_7) ∧ ∃ (x_8 : Option Go.Addr), ∃ (x_9 : Nat), ∃ (x_10 : Nat), ∃ (w'_1 : Go.World), Go.Sx.RunsTo
 Go.Proofs.Try.prog (Go.Builtin.append_ (Array.mk [(76 : Nat), (76 : Nat)]) (76 : Nat) #[Go.Value.slice x x_6 x_7, Go.Value.slice (Option.some (Go.Addr.mk (Array.size (Go.World.heap (Go.World.setCell w'
 (Go.Addr.add a1 (0 : Nat)) (Go.Value.slice x_3 x_4 x_5)))) (0 : Nat) Option.none)) (1 : Nat) (1 : Nat)]) (Go.World.alloc (Go.World.setCell w' (Go.Addr.add a1 (0 : Nat)) (Go.Value.slice x_3 x_4 x_5))
 (Go.Obj.cells #[Go.Value.int Go.IntKind.u8 (255 : Int)] (5 : Nat))) (Go.Value.slice x_8 x_9 x_10) w'_1 ∧ (Option.isSome (Go.World.cell? w'_1 (Go.Addr.add a1 (0 : Nat))) = Bool.true ∧ Go.World.frozen?
 w'_1 (Go.Addr.add a1 (0 : Nat)) = Bool.false) ∧ K (Go.Value.tuple #[]) (Go.World.setCell w'_1 (Go.Addr.add a1 (0 : Nat)) (Go.Value.slice x_8 x_9 x_10)) else K (Go.Value.tuple #[]) (Go.World.setCell w'
 (Go.Addr.add a1 (0 : Nat)) (Go.Value.slice x_3 x_4 x_5))
theorem record_part_1.eq (c : Int) (a1 : Addr) (w : World) (K : Value → World → Prop) : record_part_1.W c a1 w K = fnW Try.prog Try.f83 .auto [.int .u8 c, .pointer (some a1)] w K := by kernel_rfl
theorem record_part_1.calls (ok : Okay Try.prog) {c : Int} {a1 : Addr} {w : World} {K : Value → World → Prop} (h : record_part_1.W c a1 w K) : CallsV Try.prog 83 #[.int .u8 c, .pointer (some a1)] w K :=
  fnW_calls ok Try.func83 (an := .auto) (args := [.int .u8 c, .pointer (some a1)]) (by rw [← record_part_1.eq]; exact h)
noncomputable def record_turn.W : Option Addr → Nat → Nat → World → (Value → World → Prop) → Prop := fun (b_A : Option Go.Addr) (b_n b_c : Nat) (w : Go.World) (K : Go.Value → Go.World → Prop) => ∃ (I :
 Int → Go.World → Prop), ∃ (μ : Int → Go.World → Nat), I (0 : Int) w ∧ ∀ (x : Int) (w : Go.World), I x w → bif Decidable.decide (x < (↑b_n : Int)) then ∃ (ad : Go.Addr), b_A = Option.some ad ∧ ((0 :
 Int) ≤ x ∧ x < (↑b_n : Int)) ∧ ∃ (x_1 : Int), Go.World.cell? w (Go.Addr.add ad (Int.toNat x * (1 : Nat))) = Option.some (Go.Value.int Go.IntKind.u8 x_1) ∧ ∃ (ad : Go.Addr), b_A = Option.some ad ∧ ((0 :
 Int) ≤ x ∧ x < (↑b_n : Int)) ∧ (Option.isSome (Go.World.cell? w (Go.Addr.add (Go.Addr.add ad (Int.toNat x * (1 : Nat))) (0 : Nat))) = Bool.true ∧ Go.World.frozen? w (Go.Addr.add (Go.Addr.add ad
 (Int.toNat x * (1 : Nat))) (0 : Nat)) = Bool.false) ∧ I (Go.IntKind.wrap Go.IntKind.i64 (x + (1 : Int))) (Go.World.setCell w (Go.Addr.add (Go.Addr.add ad (Int.toNat x * (1 : Nat))) (0 : Nat))
 (Go.Value.int Go.IntKind.u8 (Go.IntKind.wrap Go.IntKind.u8 (↑(BitVec.toNat (BitVec.ofInt (8 : Nat) (if Go.IntKind.signed Go.IntKind.u8 = Bool.true then (-1 : Int) else Go.IntKind.max Go.IntKind.u8) ^^^
 BitVec.ofInt (8 : Nat) x_1)) : Int)))) ∧ μ (Go.IntKind.wrap Go.IntKind.i64 (x + (1 : Int))) (Go.World.setCell w (Go.Addr.add (Go.Addr.add ad (Int.toNat x * (1 : Nat))) (0 : Nat)) (Go.Value.int
 Go.IntKind.u8 (Go.IntKind.wrap Go.IntKind.u8 (↑(BitVec.toNat (BitVec.ofInt (8 : Nat) (if Go.IntKind.signed Go.IntKind.u8 = Bool.true then (-1 : Int) else Go.IntKind.max Go.IntKind.u8) ^^^ BitVec.ofInt
 (8 : Nat) x_1)) : Int)))) < μ x w else K (Go.Value.tuple #[]) w
theorem record_turn.eq (b_A : Option Addr) (b_n : Nat) (b_c : Nat) (w : World) (K : Value → World → Prop) : record_turn.W b_A b_n b_c w K = fnW Try.prog Try.f59 (.seq .auto (.block (.loop [(5, .one (.int .i64))] .auto))) [.slice b_A b_n b_c] w K := by kernel_rfl
theorem record_turn.calls (ok : Okay Try.prog) {b_A : Option Addr} {b_n : Nat} {b_c : Nat} {w : World} {K : Value → World → Prop} (h : record_turn.W b_A b_n b_c w K) : CallsV Try.prog 59 #[.slice b_A b_n b_c] w K :=
  fnW_calls ok Try.func59 (an := (.seq .auto (.block (.loop [(5, .one (.int .i64))] .auto)))) (args := [.slice b_A b_n b_c]) (by rw [← record_turn.eq]; exact h)
noncomputable def record_sort.W : Int → Int → ByteArray → World → (Value → World → Prop) → Prop := fun (v0 v1 : Int) (v2 : ByteArray) (w : Go.World) (K : Go.Value → Go.World → Prop) => ∃ (x : Int),
 Go.World.cell? (Go.World.alloc w (Go.Obj.cells #[Go.Value.int Go.IntKind.u8 v0, Go.Value.int Go.IntKind.i64 v1, Go.Value.string v2] (31 : Nat))) (Go.Addr.add (Go.Addr.mk (Array.size (Go.World.heap w))
 (0 : Nat) Option.none) (0 : Nat)) = Option.some (Go.Value.int Go.IntKind.u8 x) ∧ bif Decidable.decide (x = (1 : Int)) then ∃ (x : Int), Go.World.cell? (Go.World.alloc w (Go.Obj.cells #[Go.Value.int
 Go.IntKind.u8 v0, Go.Value.int Go.IntKind.i64 v1, Go.Value.string v2] (31 : Nat))) (Go.Addr.add (Go.Addr.mk (Array.size (Go.World.heap w)) (0 : Nat) Option.none) (1 : Nat)) = Option.some (Go.Value.int
 Go.IntKind.i64 x) ∧ Go.Sx.CallsV Go.Proofs.Try.prog (63 : Nat) #[Go.Value.int Go.IntKind.i64 x] (Go.World.alloc w (Go.Obj.cells #[Go.Value.int Go.IntKind.u8 v0, Go.Value.int Go.IntKind.i64 v1,
 Go.Value.string v2] (31 : Nat))) fun (v : Go.Value) (w' : Go.World) => ∃ (x : Int), v = Go.Value.int Go.IntKind.i64 x ∧ K (Go.Value.int Go.IntKind.u64 (Go.IntKind.wrap Go.IntKind.u64 x)) w' else bif
 Decidable.decide (x = (3 : Int)) then ∃ (x : ByteArray), Go.World.cell? (Go.World.alloc w (Go.Obj.cells #[Go.Value.int Go.IntKind.u8 v0, Go.Value.int Go.IntKind.i64 v1, Go.Value.string v2] (31 : Nat)))
 (Go.Addr.add (Go.Addr.mk (Array.size (Go.World.heap w)) (0 : Nat) Option.none) (2 : Nat)) = Option.some (Go.Value.string x) ∧ K (Go.Value.int Go.IntKind.u64 (Go.IntKind.wrap Go.IntKind.u64
 (Go.IntKind.wrap Go.IntKind.u64 ((2 : Int) * Go.IntKind.wrap Go.IntKind.u64 (↑(ByteArray.size x) : Int)) + (10 : Int)))) (Go.World.alloc w (Go.Obj.cells #[Go.Value.int Go.IntKind.u8 v0, Go.Value.int
 Go.IntKind.i64 v1, Go.Value.string v2] (31 : Nat))) else bif Decidable.decide (x = (2 : Int)) then ∃ (x : ByteArray), Go.World.cell? (Go.World.alloc w (Go.Obj.cells #[Go.Value.int Go.IntKind.u8 v0,
 Go.Value.int Go.IntKind.i64 v1, Go.Value.string v2] (31 : Nat))) (Go.Addr.add (Go.Addr.mk (Array.size (Go.World.heap w)) (0 : Nat) Option.none) (2 : Nat)) = Option.some (Go.Value.string x) ∧ K
 (Go.Value.int Go.IntKind.u64 (Go.IntKind.wrap Go.IntKind.u64 (Go.IntKind.wrap Go.IntKind.u64 ((2 : Int) * Go.IntKind.wrap Go.IntKind.u64 (↑(ByteArray.size x) : Int)) + (11 : Int)))) (Go.World.alloc w
 (Go.Obj.cells #[Go.Value.int Go.IntKind.u8 v0, Go.Value.int Go.IntKind.i64 v1, Go.Value.string v2] (31 : Nat))) else K (Go.Value.int Go.IntKind.u64 (0 : Int)) (Go.World.alloc w (Go.Obj.cells
 #[Go.Value.int Go.IntKind.u8 v0, Go.Value.int Go.IntKind.i64 v1, Go.Value.string v2] (31 : Nat)))
theorem record_sort.eq (v0 : Int) (v1 : Int) (v2 : ByteArray) (w : World) (K : Value → World → Prop) : record_sort.W v0 v1 v2 w K = fnW Try.prog Try.f61 .auto [.agg #[.int .u8 v0, .int .i64 v1, .string v2]] w K := by kernel_rfl
theorem record_sort.calls (ok : Okay Try.prog) {v0 : Int} {v1 : Int} {v2 : ByteArray} {w : World} {K : Value → World → Prop} (h : record_sort.W v0 v1 v2 w K) : CallsV Try.prog 61 #[.agg #[.int .u8 v0, .int .i64 v1, .string v2]] w K :=
  fnW_calls ok Try.func61 (an := .auto) (args := [.agg #[.int .u8 v0, .int .i64 v1, .string v2]]) (by rw [← record_sort.eq]; exact h)
noncomputable def record_high.W : Option Addr → Nat → Nat → Int → Int → World → (Value → World → Prop) → Prop := fun (out_A : Option Go.Addr) (out_n out_c : Nat) (n k : Int) (w : Go.World) (K :
 Go.Value → Go.World → Prop) => ∃ (I : Option Go.Addr → Nat → Nat → Int → Go.World → Prop), ∃ (μ : Option Go.Addr → Nat → Nat → Int → Go.World → Nat), I out_A out_n out_c (Go.IntKind.wrap Go.IntKind.i64
 (k - (1 : Int))) w ∧ ∀ (x : Option Go.Addr) (x_1 x_2 : Nat) (x_3 : Int) (w : Go.World), I x x_1 x_2 x_3 w → bif Decidable.decide ((0 : Int) ≤ x_3) then (0 : Int) ≤ Go.IntKind.wrap Go.IntKind.i64 ((8 :
 Int) * x_3) ∧ ∃ (x_4 : Option Go.Addr), ∃ (x_5 : Nat), ∃ (x_6 : Nat), ∃ (w' : Go.World), Go.Sx.RunsTo Go.Proofs.Try.prog (Go.Builtin.append_ (Array.mk [(76 : Nat), (76 : Nat)]) (76 : Nat)
 #[Go.Value.slice x x_1 x_2, Go.Value.slice (Option.some (Go.Addr.mk (Array.size (Go.World.heap w)) (0 : Nat) Option.none)) (1 : Nat) (1 : Nat)]) (Go.World.alloc w (Go.Obj.cells #[Go.Value.int
 Go.IntKind.u8 (Go.IntKind.wrap Go.IntKind.u8 (Int.fdiv n ((2 : Int) ^ Min.min (Int.toNat (Go.IntKind.wrap Go.IntKind.i64 ((8 : Int) * x_3))) (64 : Nat))))] (5 : Nat))) (Go.Value.slice x_4 x_5 x_6) w' ∧
 I x_4 x_5 x_6 (Go.IntKind.wrap Go.IntKind.i64 (x_3 - (1 : Int))) w' ∧ μ x_4 x_5 x_6 (Go.IntKind.wrap Go.IntKind.i64 (x_3 - (1 : Int))) w' < μ x x_1 x_2 x_3 w else K (Go.Value.slice x x_1 x_2) w
theorem record_high.eq (out_A : Option Addr) (out_n : Nat) (out_c : Nat) (n : Int) (k : Int) (w : World) (K : Value → World → Prop) : record_high.W out_A out_n out_c n k w K = fnW Try.prog Try.f62 (.seq .auto (.seq (.seq .auto (.block (.loop [(0, .one .slc), (7, .one (.int .i64))] .auto))) .auto)) [.slice out_A out_n out_c, .int .u64 n, .int .i64 k] w K := by kernel_rfl
theorem record_high.calls (ok : Okay Try.prog) {out_A : Option Addr} {out_n : Nat} {out_c : Nat} {n : Int} {k : Int} {w : World} {K : Value → World → Prop} (h : record_high.W out_A out_n out_c n k w K) : CallsV Try.prog 62 #[.slice out_A out_n out_c, .int .u64 n, .int .i64 k] w K :=
  fnW_calls ok Try.func62 (an := (.seq .auto (.seq (.seq .auto (.block (.loop [(0, .one .slc), (7, .one (.int .i64))] .auto))) .auto))) (args := [.slice out_A out_n out_c, .int .u64 n, .int .i64 k]) (by rw [← record_high.eq]; exact h)
noncomputable def record_wide.W : Int → World → (Value → World → Prop) → Prop := fun (n : Int) (w : Go.World) (K : Go.Value → Go.World → Prop) => ∃ (I : Int → Go.World → Prop), ∃ (μ : Int → Go.World →
 Nat), ((0 : Int) ≤ Go.IntKind.wrap Go.IntKind.i64 ((64 : Int) - Go.IntKind.wrap Go.IntKind.i64 ((8 : Int) * (1 : Int))) ∧ (0 : Int) ≤ Go.IntKind.wrap Go.IntKind.i64 ((64 : Int) - Go.IntKind.wrap
 Go.IntKind.i64 ((8 : Int) * (1 : Int))) ∧ bif !Decidable.decide (Int.fdiv (Go.IntKind.wrap Go.IntKind.i64 (n * (2 : Int) ^ Min.min (Int.toNat (Go.IntKind.wrap Go.IntKind.i64 ((64 : Int) -
 Go.IntKind.wrap Go.IntKind.i64 ((8 : Int) * (1 : Int))))) (64 : Nat))) ((2 : Int) ^ Min.min (Int.toNat (Go.IntKind.wrap Go.IntKind.i64 ((64 : Int) - Go.IntKind.wrap Go.IntKind.i64 ((8 : Int) * (1 :
 Int))))) (64 : Nat)) = n) then I (Go.IntKind.wrap Go.IntKind.i64 ((1 : Int) + (1 : Int))) w else K (Go.Value.int Go.IntKind.i64 (1 : Int)) w) ∧ ∀ (x : Int) (w : Go.World), I x w → bif Decidable.decide
 (x < (8 : Int)) then (0 : Int) ≤ Go.IntKind.wrap Go.IntKind.i64 ((64 : Int) - Go.IntKind.wrap Go.IntKind.i64 ((8 : Int) * x)) ∧ (0 : Int) ≤ Go.IntKind.wrap Go.IntKind.i64 ((64 : Int) - Go.IntKind.wrap
 Go.IntKind.i64 ((8 : Int) * x)) ∧ bif !Decidable.decide (Int.fdiv (Go.IntKind.wrap Go.IntKind.i64 (n * (2 : Int) ^ Min.min (Int.toNat (Go.IntKind.wrap Go.IntKind.i64 ((64 : Int) - Go.IntKind.wrap
 Go.IntKind.i64 ((8 : Int) * x)))) (64 : Nat))) ((2 : Int) ^ Min.min (Int.toNat (Go.IntKind.wrap Go.IntKind.i64 ((64 : Int) - Go.IntKind.wrap Go.IntKind.i64 ((8 : Int) * x)))) (64 : Nat)) = n) then I
 (Go.IntKind.wrap Go.IntKind.i64 (x + (1 : Int))) w ∧ μ (Go.IntKind.wrap Go.IntKind.i64 (x + (1 : Int))) w < μ x w else K (Go.Value.int Go.IntKind.i64 x) w else K (Go.Value.int Go.IntKind.i64 x) w
theorem record_wide.eq (n : Int) (w : World) (K : Value → World → Prop) : record_wide.W n w K = fnW Try.prog Try.f63 (.seq .auto (.scope 0 [(3, .one (.int .i64))] .auto .auto)) [.int .i64 n] w K := by kernel_rfl
theorem record_wide.calls (ok : Okay Try.prog) {n : Int} {w : World} {K : Value → World → Prop} (h : record_wide.W n w K) : CallsV Try.prog 63 #[.int .i64 n] w K :=
  fnW_calls ok Try.func63 (an := (.seq .auto (.scope 0 [(3, .one (.int .i64))] .auto .auto))) (args := [.int .i64 n]) (by rw [← record_wide.eq]; exact h)
noncomputable def record_bounded.W : Option Addr → Nat → Nat → World → (Value → World → Prop) → Prop := fun (b_A : Option Go.Addr) (b_n b_c : Nat) (w : Go.World) (K : Go.Value → Go.World → Prop) => bif
 Decidable.decide ((1048576 : Int) < (↑b_n : Int)) then K (Go.Value.tuple #[Go.Value.slice Option.none (0 : Nat) (0 : Nat), Go.Value.int Go.IntKind.i64 (3 : Int)]) w else K (Go.Value.tuple
 #[Go.Value.slice b_A b_n b_c, Go.Value.int Go.IntKind.i64 (0 : Int)]) w
theorem record_bounded.eq (b_A : Option Addr) (b_n : Nat) (b_c : Nat) (w : World) (K : Value → World → Prop) : record_bounded.W b_A b_n b_c w K = fnW Try.prog Try.f64 .auto [.slice b_A b_n b_c] w K := by kernel_rfl
theorem record_bounded.calls (ok : Okay Try.prog) {b_A : Option Addr} {b_n : Nat} {b_c : Nat} {w : World} {K : Value → World → Prop} (h : record_bounded.W b_A b_n b_c w K) : CallsV Try.prog 64 #[.slice b_A b_n b_c] w K :=
  fnW_calls ok Try.func64 (an := .auto) (args := [.slice b_A b_n b_c]) (by rw [← record_bounded.eq]; exact h)
noncomputable def slices_ContainsFunc_api_Value_api_Value.W : Option Addr → Nat → Nat → World → (Value → World → Prop) → Prop := fun (s_A : Option Go.Addr) (s_n s_c : Nat) (w : Go.World) (K : Go.Value
 → Go.World → Prop) => Go.Sx.CallsV Go.Proofs.Try.prog (93 : Nat) #[Go.Value.slice s_A s_n s_c, Go.Value.func (Go.Fn.func (82 : Go.FuncId)) #[] #[]] w fun (v : Go.Value) (w' : Go.World) => ∃ (x : Int),
 v = Go.Value.int Go.IntKind.i64 x ∧ K (Go.Value.bool (Decidable.decide ((0 : Int) ≤ x))) w'
theorem slices_ContainsFunc_api_Value_api_Value.eq (s_A : Option Addr) (s_n : Nat) (s_c : Nat) (w : World) (K : Value → World → Prop) : slices_ContainsFunc_api_Value_api_Value.W s_A s_n s_c w K = fnW Try.prog Try.f81 .auto [.slice s_A s_n s_c, (.func (.func 82) #[] #[])] w K := by kernel_rfl
theorem slices_ContainsFunc_api_Value_api_Value.calls (ok : Okay Try.prog) {s_A : Option Addr} {s_n : Nat} {s_c : Nat} {w : World} {K : Value → World → Prop} (h : slices_ContainsFunc_api_Value_api_Value.W s_A s_n s_c w K) : CallsV Try.prog 81 #[.slice s_A s_n s_c, (.func (.func 82) #[] #[])] w K :=
  fnW_calls ok Try.func81 (an := .auto) (args := [.slice s_A s_n s_c, (.func (.func 82) #[] #[])]) (by rw [← slices_ContainsFunc_api_Value_api_Value.eq]; exact h)
noncomputable def slices_IndexFunc_api_Value_api_Value.W : Option Addr → Nat → Nat → World → (Value → World → Prop) → Prop := fun (s_A : Option Go.Addr) (s_n s_c : Nat) (w : Go.World) (K : Go.Value →
 Go.World → Prop) => ∃ (I : Int → Go.World → Prop), ∃ (μ : Int → Go.World → Nat), I (0 : Int) w ∧ ∀ (x : Int) (w : Go.World), I x w → bif Decidable.decide (x < (↑s_n : Int)) then ∃ (ad : Go.Addr), s_A =
 Option.some ad ∧ ((0 : Int) ≤ x ∧ x < (↑s_n : Int)) ∧ ∃ (x_1 : Int), Go.World.cell? w (Go.Addr.add (Go.Addr.add ad (Int.toNat x * (3 : Nat))) (0 : Nat)) = Option.some (Go.Value.int Go.IntKind.u8 x_1) ∧
 ∃ (x_2 : Int), Go.World.cell? w (Go.Addr.add (Go.Addr.add ad (Int.toNat x * (3 : Nat))) ((0 : Nat) + (1 : Nat))) = Option.some (Go.Value.int Go.IntKind.i64 x_2) ∧ ∃ (x_3 : ByteArray), Go.World.cell? w
 (Go.Addr.add (Go.Addr.add ad (Int.toNat x * (3 : Nat))) ((0 : Nat) + (1 : Nat) + (1 : Nat))) = Option.some (Go.Value.string x_3) ∧ Go.Sx.CallsV Go.Proofs.Try.prog (82 : Go.FuncId) #[Go.Value.agg
 #[Go.Value.int Go.IntKind.u8 x_1, Go.Value.int Go.IntKind.i64 x_2, Go.Value.string x_3]] w fun (v : Go.Value) (w' : Go.World) => ∃ (x_4 : Bool), v = Go.Value.bool x_4 ∧ bif x_4 then K (Go.Value.int
 Go.IntKind.i64 x) w' else I (Go.IntKind.wrap Go.IntKind.i64 (x + (1 : Int))) w' ∧ μ (Go.IntKind.wrap Go.IntKind.i64 (x + (1 : Int))) w' < μ x w else K (Go.Value.int Go.IntKind.i64 (-1 : Int)) w
theorem slices_IndexFunc_api_Value_api_Value.eq (s_A : Option Addr) (s_n : Nat) (s_c : Nat) (w : World) (K : Value → World → Prop) : slices_IndexFunc_api_Value_api_Value.W s_A s_n s_c w K = fnW Try.prog Try.f93 (.seq .auto (.seq (.seq .auto (.block (.loop [(8, .one (.int .i64))] .auto))) .auto)) [.slice s_A s_n s_c, (.func (.func 82) #[] #[])] w K := by kernel_rfl
theorem slices_IndexFunc_api_Value_api_Value.calls (ok : Okay Try.prog) {s_A : Option Addr} {s_n : Nat} {s_c : Nat} {w : World} {K : Value → World → Prop} (h : slices_IndexFunc_api_Value_api_Value.W s_A s_n s_c w K) : CallsV Try.prog 93 #[.slice s_A s_n s_c, (.func (.func 82) #[] #[])] w K :=
  fnW_calls ok Try.func93 (an := (.seq .auto (.seq (.seq .auto (.block (.loop [(8, .one (.int .i64))] .auto))) .auto))) (args := [.slice s_A s_n s_c, (.func (.func 82) #[] #[])]) (by rw [← slices_IndexFunc_api_Value_api_Value.eq]; exact h)
end Go.Proofs.Ytakmlaliglmnmaa
