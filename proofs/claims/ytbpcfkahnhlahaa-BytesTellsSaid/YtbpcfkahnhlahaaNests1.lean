/- The preconditions of Go functions, printed by a program of this workplace (nests.py); each is proved to be the engine's own. -/
import Derived.Test.YtbpcfkahnhlahaaProg
import Derived.Test.YtbpcfkahnhlahaaSxWp
set_option linter.unusedVariables false
set_option maxRecDepth 100000
namespace Go.Proofs.Ytbpcfkahnhlahaa
open Go Go.Sx
noncomputable def bytes_digit.W : Int → Int → World → (Value → World → Prop) → Prop := fun (n k : Int) (w : Go.World) (K : Go.Value → Go.World → Prop) => (0 : Int) ≤ Go.IntKind.wrap Go.IntKind.i64 ((7
 : Int) * k) ∧ (128 : Int) ≠ (0 : Int) ∧ K (Go.Value.int Go.IntKind.u8 (Go.IntKind.wrap Go.IntKind.u8 (Int.tmod (Int.fdiv n ((2 : Int) ^ Min.min (Int.toNat (Go.IntKind.wrap Go.IntKind.i64 ((7 : Int) *
 k))) (64 : Nat))) (128 : Int)))) w
theorem bytes_digit.eq (n : Int) (k : Int) (w : World) (K : Value → World → Prop) : bytes_digit.W n k w K = fnW Try.prog Try.f31 .auto [.int .u64 n, .int .i64 k] w K := by kernel_rfl
theorem bytes_digit.calls (ok : Okay Try.prog) {n : Int} {k : Int} {w : World} {K : Value → World → Prop} (h : bytes_digit.W n k w K) : CallsV Try.prog 31 #[.int .u64 n, .int .i64 k] w K :=
  fnW_calls ok Try.func31 (an := .auto) (args := [.int .u64 n, .int .i64 k]) (by rw [← bytes_digit.eq]; exact h)
noncomputable def bytes_Uint.W : Option Addr → Nat → Nat → Int → World → (Value → World → Prop) → Prop := fun (out_A : Option Go.Addr) (out_n out_c : Nat) (n : Int) (w : Go.World) (K : Go.Value →
 Go.World → Prop) => ∃ (I : Int → Int → Go.World → Prop), ∃ (μ : Int → Int → Go.World → Nat), I (0 : Int) (0 : Int) w ∧ ∀ (x x_1 : Int) (w : Go.World), I x x_1 w → bif Decidable.decide (x_1 < (10 :
 Int)) then Go.Sx.CallsV Go.Proofs.Try.prog (31 : Nat) #[Go.Value.int Go.IntKind.u64 n, Go.Value.int Go.IntKind.i64 x_1] w fun (v : Go.Value) (w' : Go.World) => ∃ (x_2 : Int), v = Go.Value.int
 Go.IntKind.u8 x_2 ∧ bif Decidable.decide ((0 : Int) < x_2) then I x_1 (Go.IntKind.wrap Go.IntKind.i64 (x_1 + (1 : Int))) w' ∧ μ x_1 (Go.IntKind.wrap Go.IntKind.i64 (x_1 + (1 : Int))) w' < μ x x_1 w
 else I x (Go.IntKind.wrap Go.IntKind.i64 (x_1 + (1 : Int))) w' ∧ μ x (Go.IntKind.wrap Go.IntKind.i64 (x_1 + (1 : Int))) w' < μ x x_1 w else ∃ (I : Option Go.Addr → Nat → Nat → Int → Go.World → Prop), ∃
 (μ : Option Go.Addr → Nat → Nat → Int → Go.World → Nat), I out_A out_n out_c (0 : Int) w ∧ ∀ (x_2 : Option Go.Addr) (x_3 x_4 : Nat) (x_5 : Int) (w : Go.World), I x_2 x_3 x_4 x_5 w → bif
 Decidable.decide (x_5 < x) then Go.Sx.CallsV Go.Proofs.Try.prog (31 : Nat) #[Go.Value.int Go.IntKind.u64 n, Go.Value.int Go.IntKind.i64 x_5] w fun (v : Go.Value) (w' : Go.World) => ∃ (x : Int), v =
 Go.Value.int Go.IntKind.u8 x ∧ ∃ (x_6 : Option Go.Addr), ∃ (x_7 : Nat), ∃ (x_8 : Nat), ∃ (w'_1 : Go.World), Go.Sx.RunsTo Go.Proofs.Try.prog (Go.Builtin.append_ (Array.mk [(30 : Nat), (30 : Nat)]) (30 :
 Nat) #[Go.Value.slice x_2 x_3 x_4, Go.Value.slice (Option.some (Go.Addr.mk (Array.size (Go.World.heap w')) (0 : Nat) Option.none)) (1 : Nat) (1 : Nat)]) (Go.World.alloc w' (Go.Obj.cells #[Go.Value.int
 Go.IntKind.u8 (Go.IntKind.wrap Go.IntKind.u8 (x + (128 : Int)))] (5 : Nat))) (Go.Value.slice x_6 x_7 x_8) w'_1 ∧ I x_6 x_7 x_8 (Go.IntKind.wrap Go.IntKind.i64 (x_5 + (1 : Int))) w'_1 ∧ μ x_6 x_7 x_8
 (Go.IntKind.wrap Go.IntKind.i64 (x_5 + (1 : Int))) w'_1 < μ x_2 x_3 x_4 x_5 w else Go.Sx.CallsV Go.Proofs.Try.prog (31 : Nat) #[Go.Value.int Go.IntKind.u64 n, Go.Value.int Go.IntKind.i64 x] w fun (v :
 Go.Value) (w' : Go.World) => ∃ (x : Int), v = Go.Value.int Go.IntKind.u8 x ∧ ∃ (x_6 : Option Go.Addr), ∃ (x_7 : Nat), ∃ (x_8 : Nat), ∃ (w'_1 : Go.World), Go.Sx.RunsTo Go.Proofs.Try.prog
 (Go.Builtin.append_ (Array.mk [(30 : Nat), (30 : Nat)]) (30 : Nat) #[Go.Value.slice x_2 x_3 x_4, Go.Value.slice (Option.some (Go.Addr.mk (Array.size (Go.World.heap w')) (0 : Nat) Option.none)) (1 :
 Nat) (1 : Nat)]) (Go.World.alloc w' (Go.Obj.cells #[Go.Value.int Go.IntKind.u8 x] (5 : Nat))) (Go.Value.slice x_6 x_7 x_8) w'_1 ∧ K (Go.Value.slice x_6 x_7 x_8) w'_1
theorem bytes_Uint.eq (out_A : Option Addr) (out_n : Nat) (out_c : Nat) (n : Int) (w : World) (K : Value → World → Prop) : bytes_Uint.W out_A out_n out_c n w K = fnW Try.prog Try.f20 (.seq .auto (.seq .auto (.seq (.seq .auto (.block (.loop [(5, .one (.int .i64)), (8, .one (.int .i64))] .auto))) (.seq (.seq .auto (.block (.loop [(0, .one .slc), (18, .one (.int .i64))] .auto))) .auto)))) [.slice out_A out_n out_c, .int .u64 n] w K := by kernel_rfl
theorem bytes_Uint.calls (ok : Okay Try.prog) {out_A : Option Addr} {out_n : Nat} {out_c : Nat} {n : Int} {w : World} {K : Value → World → Prop} (h : bytes_Uint.W out_A out_n out_c n w K) : CallsV Try.prog 20 #[.slice out_A out_n out_c, .int .u64 n] w K :=
  fnW_calls ok Try.func20 (an := (.seq .auto (.seq .auto (.seq (.seq .auto (.block (.loop [(5, .one (.int .i64)), (8, .one (.int .i64))] .auto))) (.seq (.seq .auto (.block (.loop [(0, .one .slc), (18, .one (.int .i64))] .auto))) .auto))))) (args := [.slice out_A out_n out_c, .int .u64 n]) (by rw [← bytes_Uint.eq]; exact h)
noncomputable def bytes_GetUint.W : Option Addr → Nat → Nat → Int → World → (Value → World → Prop) → Prop := fun (b_A : Option Go.Addr) (b_n b_c : Nat) (atx : Int) (w : Go.World) (K : Go.Value →
 Go.World → Prop) => bif Decidable.decide (atx < (0 : Int)) then K (Go.Value.tuple #[Go.Value.int Go.IntKind.u64 (0 : Int), Go.Value.int Go.IntKind.i64 (0 : Int), Go.Value.int Go.IntKind.i64 (2 : Int)])
 w else bif Decidable.decide ((↑b_n : Int) < atx) then K (Go.Value.tuple #[Go.Value.int Go.IntKind.u64 (0 : Int), Go.Value.int Go.IntKind.i64 (0 : Int), Go.Value.int Go.IntKind.i64 (2 : Int)]) w else ∃
 (J : Int → Go.World → Prop), (∀ (x : Int) (w : Go.World), J x w → bif Decidable.decide (x = (↑b_n : Int)) then K (Go.Value.tuple #[Go.Value.int Go.IntKind.u64 (0 : Int), Go.Value.int Go.IntKind.i64 (0
 : Int), Go.Value.int Go.IntKind.i64 (11 : Int)]) w else ∃ (S : Go.World → Prop), S (Go.World.drew w) ∧ ∃ (ad : Go.Addr), b_A = Option.some ad ∧ ((0 : Int) ≤ x ∧ x < (↑b_n : Int)) ∧ ∃ (x_1 : Int), (∀ (u
 : Go.World), S u → Go.World.cell? u (Go.Addr.add ad (Int.toNat x * (1 : Nat))) = Option.some (Go.Value.int Go.IntKind.u8 x_1)) ∧ ∃ (J : Go.World → Prop), (∀ (w : Go.World), J w → ∃ (I : Int → Int →
 Go.World → Prop), ∃ (μ : Int → Int → Go.World → Nat), I (Go.IntKind.wrap Go.IntKind.i64 (x - (1 : Int))) (Go.IntKind.wrap Go.IntKind.u64 x_1) w ∧ ∀ (x_2 x_3 : Int) (w : Go.World), I x_2 x_3 w → bif
 Decidable.decide (atx ≤ x_2) then ∃ (ad : Go.Addr), b_A = Option.some ad ∧ ((0 : Int) ≤ x_2 ∧ x_2 < (↑b_n : Int)) ∧ ∃ (x : Int), Go.World.cell? w (Go.Addr.add ad (Int.toNat x_2 * (1 : Nat))) =
 Option.some (Go.Value.int Go.IntKind.u8 x) ∧ I (Go.IntKind.wrap Go.IntKind.i64 (x_2 - (1 : Int))) (Go.IntKind.wrap Go.IntKind.u64 (Go.IntKind.wrap Go.IntKind.u64 (x_3 * (128 : Int)) + Go.IntKind.wrap
 Go.IntKind.u64 (Go.IntKind.wrap Go.IntKind.u8 (x - (128 : Int))))) w ∧ μ (Go.IntKind.wrap Go.IntKind.i64 (x_2 - (1 : Int))) (Go.IntKind.wrap Go.IntKind.u64 (Go.IntKind.wrap Go.IntKind.u64 (x_3 * (128 :
 Int)) + Go.IntKind.wrap Go.IntKind.u64 (Go.IntKind.wrap Go.IntKind.u8 (x - (128 : Int))))) w < μ x_2 x_3 w else K (Go.Value.tuple #[Go.Value.int Go.IntKind.u64 x_3, Go.Value.int Go.IntKind.i64
 (Go.IntKind.wrap Go.IntKind.i64 (atx + Go.IntKind.wrap Go.IntKind.i64 (Go.IntKind.wrap Go.IntKind.i64 (x - atx) + (1 : Int)))), Go.Value.int Go.IntKind.i64 (0 : Int)]) w) ∧ bif Decidable.decide ((1 :
 Int) < Go.IntKind.wrap Go.IntKind.i64 (Go.IntKind.wrap Go.IntKind.i64 (x - atx) + (1 : Int))) then bif Decidable.decide (x_1 = (0 : Int)) then K (Go.Value.tuple #[Go.Value.int Go.IntKind.u64 (0 : Int),
 Go.Value.int Go.IntKind.i64 (0 : Int), Go.Value.int Go.IntKind.i64 (10 : Int)]) (Go.World.drew w) else bif Decidable.decide (Go.IntKind.wrap Go.IntKind.i64 (Go.IntKind.wrap Go.IntKind.i64 (x - atx) +
 (1 : Int)) = (10 : Int)) then bif Decidable.decide ((2 : Int) ≤ x_1) then K (Go.Value.tuple #[Go.Value.int Go.IntKind.u64 (0 : Int), Go.Value.int Go.IntKind.i64 (0 : Int), Go.Value.int Go.IntKind.i64
 (10 : Int)]) (Go.World.drew w) else J (Go.World.drew w) else J (Go.World.drew w) else bif Decidable.decide (Go.IntKind.wrap Go.IntKind.i64 (Go.IntKind.wrap Go.IntKind.i64 (x - atx) + (1 : Int)) = (10 :
 Int)) then bif Decidable.decide ((2 : Int) ≤ x_1) then K (Go.Value.tuple #[Go.Value.int Go.IntKind.u64 (0 : Int), Go.Value.int Go.IntKind.i64 (0 : Int), Go.Value.int Go.IntKind.i64 (10 : Int)])
 (Go.World.drew w) else J (Go.World.drew w) else J (Go.World.drew w)) ∧ ∃ (I : Int → Go.World → Prop), ∃ (μ : Int → Go.World → Nat), I atx w ∧ ∀ (x : Int) (w : Go.World), I x w → bif Decidable.decide (x
 < (↑b_n : Int)) then bif Decidable.decide (x < Go.IntKind.wrap Go.IntKind.i64 (Go.IntKind.wrap Go.IntKind.i64 (atx + (10 : Int)) - (1 : Int))) then ∃ (ad : Go.Addr), b_A = Option.some ad ∧ ((0 : Int) ≤
 x ∧ x < (↑b_n : Int)) ∧ ∃ (x_1 : Int), Go.World.cell? w (Go.Addr.add ad (Int.toNat x * (1 : Nat))) = Option.some (Go.Value.int Go.IntKind.u8 x_1) ∧ bif Decidable.decide ((128 : Int) ≤ x_1) then I
 (Go.IntKind.wrap Go.IntKind.i64 (x + (1 : Int))) w ∧ μ (Go.IntKind.wrap Go.IntKind.i64 (x + (1 : Int))) w < μ x w else J x w else J x w else J x w
theorem bytes_GetUint.eq (b_A : Option Addr) (b_n : Nat) (b_c : Nat) (atx : Int) (w : World) (K : Value → World → Prop) : bytes_GetUint.W b_A b_n b_c atx w K = fnW Try.prog Try.f15 (.seq .auto (.seq .auto (.seq .auto (.join [(7, .one (.int .i64))] (.block (.loop [(7, .one (.int .i64))] .auto)) (.seq .auto (.seq .auto (.join [] .auto (.seq .auto (.seq (.seq .auto (.block (.loop [(7, .one (.int .i64)), (10, .one (.int .u64))] .auto))) .auto))))))))) [.slice b_A b_n b_c, .int .i64 atx] w K := by kernel_rfl
theorem bytes_GetUint.calls (ok : Okay Try.prog) {b_A : Option Addr} {b_n : Nat} {b_c : Nat} {atx : Int} {w : World} {K : Value → World → Prop} (h : bytes_GetUint.W b_A b_n b_c atx w K) : CallsV Try.prog 15 #[.slice b_A b_n b_c, .int .i64 atx] w K :=
  fnW_calls ok Try.func15 (an := (.seq .auto (.seq .auto (.seq .auto (.join [(7, .one (.int .i64))] (.block (.loop [(7, .one (.int .i64))] .auto)) (.seq .auto (.seq .auto (.join [] .auto (.seq .auto (.seq (.seq .auto (.block (.loop [(7, .one (.int .i64)), (10, .one (.int .u64))] .auto))) .auto)))))))))) (args := [.slice b_A b_n b_c, .int .i64 atx]) (by rw [← bytes_GetUint.eq]; exact h)
noncomputable def bytes_Blob.W : Option Addr → Nat → Nat → Option Addr → Nat → Nat → World → (Value → World → Prop) → Prop := fun (out_A : Option Go.Addr) (out_n out_c : Nat) (b_A : Option Go.Addr)
 (b_n b_c : Nat) (w : Go.World) (K : Go.Value → Go.World → Prop) => Go.Sx.CallsV Go.Proofs.Try.prog (20 : Nat) #[Go.Value.slice out_A out_n out_c, Go.Value.int Go.IntKind.u64 (Go.IntKind.wrap
 Go.IntKind.u64 (↑b_n : Int))] w fun (v : Go.Value) (w' : Go.World) => ∃ (x : Option Go.Addr), ∃ (x_1 : Nat), ∃ (x_2 : Nat), v = Go.Value.slice x x_1 x_2 ∧ ∃ (x_3 : Option Go.Addr), ∃ (x_4 : Nat), ∃
 (x_5 : Nat), ∃ (w'_1 : Go.World), Go.Sx.RunsTo Go.Proofs.Try.prog (Go.Builtin.append_ (Array.mk [(30 : Nat), (30 : Nat)]) (30 : Nat) #[Go.Value.slice x x_1 x_2, Go.Value.slice b_A b_n b_c]) w'
 (Go.Value.slice x_3 x_4 x_5) w'_1 ∧ K (Go.Value.slice x_3 x_4 x_5) w'_1
theorem bytes_Blob.eq (out_A : Option Addr) (out_n : Nat) (out_c : Nat) (b_A : Option Addr) (b_n : Nat) (b_c : Nat) (w : World) (K : Value → World → Prop) : bytes_Blob.W out_A out_n out_c b_A b_n b_c w K = fnW Try.prog Try.f21 .auto [.slice out_A out_n out_c, .slice b_A b_n b_c] w K := by kernel_rfl
theorem bytes_Blob.calls (ok : Okay Try.prog) {out_A : Option Addr} {out_n : Nat} {out_c : Nat} {b_A : Option Addr} {b_n : Nat} {b_c : Nat} {w : World} {K : Value → World → Prop} (h : bytes_Blob.W out_A out_n out_c b_A b_n b_c w K) : CallsV Try.prog 21 #[.slice out_A out_n out_c, .slice b_A b_n b_c] w K :=
  fnW_calls ok Try.func21 (an := .auto) (args := [.slice out_A out_n out_c, .slice b_A b_n b_c]) (by rw [← bytes_Blob.eq]; exact h)
noncomputable def bytes_GetBlob.W : Option Addr → Nat → Nat → Int → Int → World → (Value → World → Prop) → Prop := fun (b_A : Option Go.Addr) (b_n b_c : Nat) (atx most : Int) (w : Go.World) (K :
 Go.Value → Go.World → Prop) => Go.Sx.CallsV Go.Proofs.Try.prog (15 : Nat) #[Go.Value.slice b_A b_n b_c, Go.Value.int Go.IntKind.i64 atx] w fun (v : Go.Value) (w' : Go.World) => ∃ (x : Int), ∃ (x_1 :
 Int), ∃ (x_2 : Int), v = Go.Value.tuple #[Go.Value.int Go.IntKind.u64 x, Go.Value.int Go.IntKind.i64 x_1, Go.Value.int Go.IntKind.i64 x_2] ∧ bif !Decidable.decide (x_2 = (0 : Int)) then K
 (Go.Value.tuple #[Go.Value.slice Option.none (0 : Nat) (0 : Nat), Go.Value.int Go.IntKind.i64 (0 : Int), Go.Value.int Go.IntKind.i64 x_2]) w' else ((0 : Int) ≤ x_1 ∧ x_1 ≤ (↑b_n : Int)) ∧ bif
 Decidable.decide (most < (0 : Int)) then K (Go.Value.tuple #[Go.Value.slice Option.none (0 : Nat) (0 : Nat), Go.Value.int Go.IntKind.i64 (0 : Int), Go.Value.int Go.IntKind.i64 (3 : Int)]) w' else bif
 Decidable.decide (Go.IntKind.wrap Go.IntKind.u64 most < x) then K (Go.Value.tuple #[Go.Value.slice Option.none (0 : Nat) (0 : Nat), Go.Value.int Go.IntKind.i64 (0 : Int), Go.Value.int Go.IntKind.i64 (3
 : Int)]) w' else bif Decidable.decide (Go.IntKind.wrap Go.IntKind.u64 (↑(b_n - Int.toNat x_1) : Int) < x) then K (Go.Value.tuple #[Go.Value.slice Option.none (0 : Nat) (0 : Nat), Go.Value.int
 Go.IntKind.i64 (0 : Int), Go.Value.int Go.IntKind.i64 (11 : Int)]) w' else ((0 : Int) ≤ x ∧ x ≤ (↑(b_c - Int.toNat x_1) : Int)) ∧ ∃ (x_3 : Option Go.Addr), ∃ (x_4 : Nat), ∃ (x_5 : Nat), ∃ (w'_1 :
 Go.World), Go.Sx.RunsTo Go.Proofs.Try.prog (Go.Builtin.append_ (Array.mk [(30 : Nat), (30 : Nat)]) (30 : Nat) #[Go.Value.slice (Option.some (Go.Addr.mk (Array.size (Go.World.heap w')) (0 : Nat)
 Option.none)) (0 : Nat) (0 : Nat), Go.Value.slice (Go.Sx.cutAt (Go.Sx.cutAt b_A b_c (Int.toNat x_1) (1 : Nat)) (b_c - Int.toNat x_1) (0 : Nat) (1 : Nat)) (Int.toNat x - (0 : Nat)) (b_c - Int.toNat x_1
 - (0 : Nat))]) (Go.World.alloc w' (Go.Obj.cells #[] (5 : Nat))) (Go.Value.slice x_3 x_4 x_5) w'_1 ∧ K (Go.Value.tuple #[Go.Value.slice x_3 x_4 x_5, Go.Value.int Go.IntKind.i64 (Go.IntKind.wrap
 Go.IntKind.i64 (x_1 + Go.IntKind.wrap Go.IntKind.i64 x)), Go.Value.int Go.IntKind.i64 (0 : Int)]) w'_1
theorem bytes_GetBlob.eq (b_A : Option Addr) (b_n : Nat) (b_c : Nat) (atx : Int) (most : Int) (w : World) (K : Value → World → Prop) : bytes_GetBlob.W b_A b_n b_c atx most w K = fnW Try.prog Try.f12 .auto [.slice b_A b_n b_c, .int .i64 atx, .int .i64 most] w K := by kernel_rfl
theorem bytes_GetBlob.calls (ok : Okay Try.prog) {b_A : Option Addr} {b_n : Nat} {b_c : Nat} {atx : Int} {most : Int} {w : World} {K : Value → World → Prop} (h : bytes_GetBlob.W b_A b_n b_c atx most w K) : CallsV Try.prog 12 #[.slice b_A b_n b_c, .int .i64 atx, .int .i64 most] w K :=
  fnW_calls ok Try.func12 (an := .auto) (args := [.slice b_A b_n b_c, .int .i64 atx, .int .i64 most]) (by rw [← bytes_GetBlob.eq]; exact h)
noncomputable def bytes_Blobs.W : Option Addr → Nat → Nat → Option Addr → Nat → Nat → World → (Value → World → Prop) → Prop := fun (out_A : Option Go.Addr) (out_n out_c : Nat) (l_A : Option Go.Addr)
 (l_n l_c : Nat) (w : Go.World) (K : Go.Value → Go.World → Prop) => Go.Sx.CallsV Go.Proofs.Try.prog (20 : Nat) #[Go.Value.slice out_A out_n out_c, Go.Value.int Go.IntKind.u64 (Go.IntKind.wrap
 Go.IntKind.u64 (↑l_n : Int))] w fun (v : Go.Value) (w' : Go.World) => ∃ (x : Option Go.Addr), ∃ (x_1 : Nat), ∃ (x_2 : Nat), v = Go.Value.slice x x_1 x_2 ∧ ∃ (I : Option Go.Addr → Nat → Nat → Int →
 Go.World → Prop), ∃ (μ : Option Go.Addr → Nat → Nat → Int → Go.World → Nat), I x x_1 x_2 (0 : Int) w' ∧ ∀ (x : Option Go.Addr) (x_3 x_4 : Nat) (x_5 : Int) (w : Go.World), I x x_3 x_4 x_5 w → bif
 Decidable.decide (x_5 < (↑l_n : Int)) then ∃ (ad : Go.Addr), l_A = Option.some ad ∧ ((0 : Int) ≤ x_5 ∧ x_5 < (↑l_n : Int)) ∧ ∃ (x_6 : Option Go.Addr), ∃ (x_7 : Nat), ∃ (x_8 : Nat), Go.World.cell? w
 (Go.Addr.add ad (Int.toNat x_5 * (1 : Nat))) = Option.some (Go.Value.slice x_6 x_7 x_8) ∧ Go.Sx.CallsV Go.Proofs.Try.prog (21 : Nat) #[Go.Value.slice x x_3 x_4, Go.Value.slice x_6 x_7 x_8] w fun (v :
 Go.Value) (w' : Go.World) => ∃ (x_9 : Option Go.Addr), ∃ (x_10 : Nat), ∃ (x_11 : Nat), v = Go.Value.slice x_9 x_10 x_11 ∧ I x_9 x_10 x_11 (Go.IntKind.wrap Go.IntKind.i64 (x_5 + (1 : Int))) w' ∧ μ x_9
 x_10 x_11 (Go.IntKind.wrap Go.IntKind.i64 (x_5 + (1 : Int))) w' < μ x x_3 x_4 x_5 w else K (Go.Value.slice x x_3 x_4) w
theorem bytes_Blobs.eq (out_A : Option Addr) (out_n : Nat) (out_c : Nat) (l_A : Option Addr) (l_n : Nat) (l_c : Nat) (w : World) (K : Value → World → Prop) : bytes_Blobs.W out_A out_n out_c l_A l_n l_c w K = fnW Try.prog Try.f22 (.seq .auto (.seq .auto (.seq (.seq .auto (.block (.loop [(0, .one .slc), (14, .one (.int .i64))] .auto))) .auto))) [.slice out_A out_n out_c, .slice l_A l_n l_c] w K := by kernel_rfl
theorem bytes_Blobs.calls (ok : Okay Try.prog) {out_A : Option Addr} {out_n : Nat} {out_c : Nat} {l_A : Option Addr} {l_n : Nat} {l_c : Nat} {w : World} {K : Value → World → Prop} (h : bytes_Blobs.W out_A out_n out_c l_A l_n l_c w K) : CallsV Try.prog 22 #[.slice out_A out_n out_c, .slice l_A l_n l_c] w K :=
  fnW_calls ok Try.func22 (an := (.seq .auto (.seq .auto (.seq (.seq .auto (.block (.loop [(0, .one .slc), (14, .one (.int .i64))] .auto))) .auto)))) (args := [.slice out_A out_n out_c, .slice l_A l_n l_c]) (by rw [← bytes_Blobs.eq]; exact h)
noncomputable def bytes_GetBlobs.W : Option Addr → Nat → Nat → Int → Int → Int → World → (Value → World → Prop) → Prop := fun (b_A : Option Go.Addr) (b_n b_c : Nat) (atx many most : Int) (w : Go.World)
 (K : Go.Value → Go.World → Prop) => Go.Sx.CallsV Go.Proofs.Try.prog (15 : Nat) #[Go.Value.slice b_A b_n b_c, Go.Value.int Go.IntKind.i64 atx] w fun (v : Go.Value) (w' : Go.World) => ∃ (x : Int), ∃ (x_1
 : Int), ∃ (x_2 : Int), v = Go.Value.tuple #[Go.Value.int Go.IntKind.u64 x, Go.Value.int Go.IntKind.i64 x_1, Go.Value.int Go.IntKind.i64 x_2] ∧ ∃ (J : Int → Go.World → Prop), (∀ (x_3 : Int) (w :
 Go.World), J x_3 w → ∃ (I : Int → Int → Option Go.Addr → Nat → Nat → Go.World → Prop), ∃ (μ : Int → Int → Option Go.Addr → Nat → Nat → Go.World → Nat), I x_1 x_3 Option.none (0 : Nat) (0 : Nat) w ∧ ∀
 (x_4 x_5 : Int) (x_6 : Option Go.Addr) (x_7 x_8 : Nat) (w : Go.World), I x_4 x_5 x_6 x_7 x_8 w → bif Decidable.decide (Go.IntKind.wrap Go.IntKind.u64 (↑x_7 : Int) < x) then bif Decidable.decide (x_5 =
 (0 : Int)) then Go.Sx.CallsV Go.Proofs.Try.prog (12 : Nat) #[Go.Value.slice b_A b_n b_c, Go.Value.int Go.IntKind.i64 x_4, Go.Value.int Go.IntKind.i64 most] w fun (v : Go.Value) (w' : Go.World) => ∃ (x
 : Option Go.Addr), ∃ (x_9 : Nat), ∃ (x_10 : Nat), ∃ (x_11 : Int), ∃ (x_12 : Int), v = Go.Value.tuple #[Go.Value.slice x x_9 x_10, Go.Value.int Go.IntKind.i64 x_11, Go.Value.int Go.IntKind.i64 x_12] ∧
 bif Decidable.decide (x_12 = (0 : Int)) then ∃ (x_13 : Option Go.Addr), ∃ (x_14 : Nat), ∃ (x_15 : Nat), ∃ (w'_1 : Go.World), Go.Sx.RunsTo Go.Proofs.Try.prog (Go.Builtin.append_ (Array.mk [(34 : Nat),
 (34 : Nat)]) (34 : Nat) #[Go.Value.slice x_6 x_7 x_8, Go.Value.slice (Option.some (Go.Addr.mk (Array.size (Go.World.heap w')) (0 : Nat) Option.none)) (1 : Nat) (1 : Nat)]) (Go.World.alloc w'
 (Go.Obj.cells #[Go.Value.slice x x_9 x_10] (30 : Nat))) (Go.Value.slice x_13 x_14 x_15) w'_1 ∧ I x_11 x_12 x_13 x_14 x_15 w'_1 ∧ μ x_11 x_12 x_13 x_14 x_15 w'_1 < μ x_4 x_5 x_6 x_7 x_8 w else I x_11
 x_12 x_6 x_7 x_8 w' ∧ μ x_11 x_12 x_6 x_7 x_8 w' < μ x_4 x_5 x_6 x_7 x_8 w else bif !Decidable.decide (x_5 = (0 : Int)) then K (Go.Value.tuple #[Go.Value.slice Option.none (0 : Nat) (0 : Nat),
 Go.Value.int Go.IntKind.i64 (0 : Int), Go.Value.int Go.IntKind.i64 x_5]) w else K (Go.Value.tuple #[Go.Value.slice x_6 x_7 x_8, Go.Value.int Go.IntKind.i64 x_4, Go.Value.int Go.IntKind.i64 (0 : Int)])
 w else bif !Decidable.decide (x_5 = (0 : Int)) then K (Go.Value.tuple #[Go.Value.slice Option.none (0 : Nat) (0 : Nat), Go.Value.int Go.IntKind.i64 (0 : Int), Go.Value.int Go.IntKind.i64 x_5]) w else K
 (Go.Value.tuple #[Go.Value.slice x_6 x_7 x_8, Go.Value.int Go.IntKind.i64 x_4, Go.Value.int Go.IntKind.i64 (0 : Int)]) w) ∧ bif Decidable.decide (x_2 = (0 : Int)) then bif Decidable.decide (many < (0 :
 Int)) then J (3 : Int) w' else bif Decidable.decide (Go.IntKind.wrap Go.IntKind.u64 many < x) then J (3 : Int) w' else J x_2 w' else J x_2 w'
theorem bytes_GetBlobs.eq (b_A : Option Addr) (b_n : Nat) (b_c : Nat) (atx : Int) (many : Int) (most : Int) (w : World) (K : Value → World → Prop) : bytes_GetBlobs.W b_A b_n b_c atx many most w K = fnW Try.prog Try.f13 (.seq .auto (.seq .auto (.join [(12, .one (.int .i64))] .auto (.seq .auto (.seq (.block (.loop [(1, .one (.int .i64)), (12, .one (.int .i64)), (13, .one .slc)] .auto)) .auto))))) [.slice b_A b_n b_c, .int .i64 atx, .int .i64 many, .int .i64 most] w K := by kernel_rfl
theorem bytes_GetBlobs.calls (ok : Okay Try.prog) {b_A : Option Addr} {b_n : Nat} {b_c : Nat} {atx : Int} {many : Int} {most : Int} {w : World} {K : Value → World → Prop} (h : bytes_GetBlobs.W b_A b_n b_c atx many most w K) : CallsV Try.prog 13 #[.slice b_A b_n b_c, .int .i64 atx, .int .i64 many, .int .i64 most] w K :=
  fnW_calls ok Try.func13 (an := (.seq .auto (.seq .auto (.join [(12, .one (.int .i64))] .auto (.seq .auto (.seq (.block (.loop [(1, .one (.int .i64)), (12, .one (.int .i64)), (13, .one .slc)] .auto)) .auto)))))) (args := [.slice b_A b_n b_c, .int .i64 atx, .int .i64 many, .int .i64 most]) (by rw [← bytes_GetBlobs.eq]; exact h)
noncomputable def cardindexlaw01_same.W : Option Addr → Nat → Nat → Option Addr → Nat → Nat → World → (Value → World → Prop) → Prop := fun (a_A : Option Go.Addr) (a_n a_c : Nat) (b_A : Option Go.Addr)
 (b_n b_c : Nat) (w : Go.World) (K : Go.Value → Go.World → Prop) => bif !Decidable.decide ((↑a_n : Int) = (↑b_n : Int)) then K (Go.Value.bool Bool.false) w else ∃ (I : Int → Go.World → Prop), ∃ (μ : Int
 → Go.World → Nat), I (0 : Int) w ∧ ∀ (x : Int) (w : Go.World), I x w → bif Decidable.decide (x < (↑a_n : Int)) then ∃ (S : Go.World → Prop), S (Go.World.drew w) ∧ ∃ (ad : Go.Addr), a_A = Option.some ad
 ∧ ((0 : Int) ≤ x ∧ x < (↑a_n : Int)) ∧ ∃ (x_1 : Option Go.Addr), ∃ (x_2 : Nat), ∃ (x_3 : Nat), (∀ (u : Go.World), S u → Go.World.cell? u (Go.Addr.add ad (Int.toNat x * (1 : Nat))) = Option.some
 (Go.Value.slice x_1 x_2 x_3)) ∧ ∃ (r : ByteArray), (∀ (u : Go.World), S u → Go.Sx.RunsTo Go.Proofs.Try.prog (Go.convert (30 : Nat) (9 : Nat) (Go.Value.slice x_1 x_2 x_3)) u (Go.Value.string r) u) ∧ ∃
 (ad : Go.Addr), b_A = Option.some ad ∧ ((0 : Int) ≤ x ∧ x < (↑b_n : Int)) ∧ ∃ (x_4 : Option Go.Addr), ∃ (x_5 : Nat), ∃ (x_6 : Nat), (∀ (u : Go.World), S u → Go.World.cell? u (Go.Addr.add ad (Int.toNat
 x * (1 : Nat))) = Option.some (Go.Value.slice x_4 x_5 x_6)) ∧ ∃ (r_1 : ByteArray), (∀ (u : Go.World), S u → Go.Sx.RunsTo Go.Proofs.Try.prog (Go.convert (30 : Nat) (9 : Nat) (Go.Value.slice x_4 x_5
 x_6)) u (Go.Value.string r_1) u) ∧ bif !ByteArray.toList r == ByteArray.toList r_1 then K (Go.Value.bool Bool.false) (Go.World.drew w) else I (Go.IntKind.wrap Go.IntKind.i64 (x + (1 : Int)))
 (Go.World.drew w) ∧ μ (Go.IntKind.wrap Go.IntKind.i64 (x + (1 : Int))) (Go.World.drew w) < μ x w else K (Go.Value.bool Bool.true) w
theorem cardindexlaw01_same.eq (a_A : Option Addr) (a_n : Nat) (a_c : Nat) (b_A : Option Addr) (b_n : Nat) (b_c : Nat) (w : World) (K : Value → World → Prop) : cardindexlaw01_same.W a_A a_n a_c b_A b_n b_c w K = fnW Try.prog Try.f19 (.seq .auto (.seq .auto (.seq (.seq .auto (.block (.loop [(13, .one (.int .i64))] .auto))) .auto))) [.slice a_A a_n a_c, .slice b_A b_n b_c] w K := by kernel_rfl
theorem cardindexlaw01_same.calls (ok : Okay Try.prog) {a_A : Option Addr} {a_n : Nat} {a_c : Nat} {b_A : Option Addr} {b_n : Nat} {b_c : Nat} {w : World} {K : Value → World → Prop} (h : cardindexlaw01_same.W a_A a_n a_c b_A b_n b_c w K) : CallsV Try.prog 19 #[.slice a_A a_n a_c, .slice b_A b_n b_c] w K :=
  fnW_calls ok Try.func19 (an := (.seq .auto (.seq .auto (.seq (.seq .auto (.block (.loop [(13, .one (.int .i64))] .auto))) .auto)))) (args := [.slice a_A a_n a_c, .slice b_A b_n b_c]) (by rw [← cardindexlaw01_same.eq]; exact h)
noncomputable def cardindexlaw01_fits.W : Option Addr → Nat → Nat → World → (Value → World → Prop) → Prop := fun (l_A : Option Go.Addr) (l_n l_c : Nat) (w : Go.World) (K : Go.Value → Go.World → Prop)
 => ∃ (I : Int → Go.World → Prop), ∃ (μ : Int → Go.World → Nat), I (0 : Int) w ∧ ∀ (x : Int) (w : Go.World), I x w → bif Decidable.decide (x < (↑l_n : Int)) then ∃ (ad : Go.Addr), l_A = Option.some ad ∧
 ((0 : Int) ≤ x ∧ x < (↑l_n : Int)) ∧ ∃ (x_1 : Int), Go.World.cell? w (Go.Addr.add (Go.Addr.add ad (Int.toNat x * (2 : Nat))) (0 : Nat)) = Option.some (Go.Value.int Go.IntKind.u64 x_1) ∧ ∃ (x_2 :
 ByteArray), Go.World.cell? w (Go.Addr.add (Go.Addr.add ad (Int.toNat x * (2 : Nat))) ((0 : Nat) + (1 : Nat))) = Option.some (Go.Value.string x_2) ∧ (Option.isSome (Go.World.cell? (Go.World.alloc w
 (Go.Obj.cells #[Go.Value.int Go.IntKind.u64 (0 : Int), Go.Value.string (ByteArray.mk #[])] (25 : Nat))) (Go.Addr.add (Go.Addr.mk (Array.size (Go.World.heap w)) (0 : Nat) Option.none) (0 : Nat))) =
 Bool.true ∧ Go.World.frozen? (Go.World.alloc w (Go.Obj.cells #[Go.Value.int Go.IntKind.u64 (0 : Int), Go.Value.string (ByteArray.mk #[])] (25 : Nat))) (Go.Addr.add (Go.Addr.mk (Array.size
 (Go.World.heap w)) (0 : Nat) Option.none) (0 : Nat)) = Bool.false) ∧ (Option.isSome (Go.World.cell? (Go.World.setCell (Go.World.alloc w (Go.Obj.cells #[Go.Value.int Go.IntKind.u64 (0 : Int),
 Go.Value.string (ByteArray.mk #[])] (25 : Nat))) (Go.Addr.add (Go.Addr.mk (Array.size (Go.World.heap w)) (0 : Nat) Option.none) (0 : Nat)) (Go.Value.int Go.IntKind.u64 x_1)) (Go.Addr.add (Go.Addr.mk
 (Array.size (Go.World.heap w)) (0 : Nat) Option.none) ((0 : Nat) + (1 : Nat)))) = Bool.true ∧ Go.World.frozen? (Go.World.setCell (Go.World.alloc w (Go.Obj.cells #[Go.Value.int Go.IntKind.u64 (0 : Int),
 Go.Value.string (ByteArray.mk #[])] (25 : Nat))) (Go.Addr.add (Go.Addr.mk (Array.size (Go.World.heap w)) (0 : Nat) Option.none) (0 : Nat)) (Go.Value.int Go.IntKind.u64 x_1)) (Go.Addr.add (Go.Addr.mk
 (Array.size (Go.World.heap w)) (0 : Nat) Option.none) ((0 : Nat) + (1 : Nat))) = Bool.false) ∧ ∃ (x_3 : ByteArray), Go.World.cell? (Go.World.setCell (Go.World.setCell (Go.World.alloc w (Go.Obj.cells
 #[Go.Value.int Go.IntKind.u64 (0 : Int), Go.Value.string (ByteArray.mk #[])] (25 : Nat))) (Go.Addr.add (Go.Addr.mk (Array.size (Go.World.heap w)) (0 : Nat) Option.none) (0 : Nat)) (Go.Value.int
 Go.IntKind.u64 x_1)) (Go.Addr.add (Go.Addr.mk (Array.size (Go.World.heap w)) (0 : Nat) Option.none) ((0 : Nat) + (1 : Nat))) (Go.Value.string x_2)) (Go.Addr.add (Go.Addr.mk (Array.size (Go.World.heap
 w)) (0 : Nat) Option.none) (1 : Nat)) = Option.some (Go.Value.string x_3) ∧ ∃ (x_4 : Option Go.Addr), ∃ (x_5 : Nat), ∃ (x_6 : Nat), ∃ (w' : Go.World), Go.Sx.RunsTo Go.Proofs.Try.prog (Go.convert (9 :
 Nat) (30 : Nat) (Go.Value.string x_3)) (Go.World.setCell (Go.World.setCell (Go.World.alloc w (Go.Obj.cells #[Go.Value.int Go.IntKind.u64 (0 : Int), Go.Value.string (ByteArray.mk #[])] (25 : Nat)))
 (Go.Addr.add (Go.Addr.mk (Array.size (Go.World.heap w)) (0 : Nat) Option.none) (0 : Nat)) (Go.Value.int Go.IntKind.u64 x_1)) (Go.Addr.add (Go.Addr.mk (Array.size (Go.World.heap w)) (0 : Nat)
 Option.none) ((0 : Nat) + (1 : Nat))) (Go.Value.string x_2)) (Go.Value.slice x_4 x_5 x_6) w' ∧ Go.Sx.CallsV Go.Proofs.Try.prog (15 : Nat) #[Go.Value.slice x_4 x_5 x_6, Go.Value.int Go.IntKind.i64 (0 :
 Int)] w' fun (v : Go.Value) (w' : Go.World) => ∃ (x_7 : Int), ∃ (x_8 : Int), ∃ (x_9 : Int), v = Go.Value.tuple #[Go.Value.int Go.IntKind.u64 x_7, Go.Value.int Go.IntKind.i64 x_8, Go.Value.int
 Go.IntKind.i64 x_9] ∧ ∃ (x_10 : ByteArray), Go.World.cell? w' (Go.Addr.add (Go.Addr.mk (Array.size (Go.World.heap w)) (0 : Nat) Option.none) (1 : Nat)) = Option.some (Go.Value.string x_10) ∧ ∃ (x_11 :
 Option Go.Addr), ∃ (x_12 : Nat), ∃ (x_13 : Nat), ∃ (w'_1 : Go.World), Go.Sx.RunsTo Go.Proofs.Try.prog (Go.convert (9 : Nat) (30 : Nat) (Go.Value.string x_10)) w' (Go.Value.slice x_11 x_12 x_13) w'_1 ∧
 ∃ (x_14 : ByteArray), Go.World.cell? w'_1 (Go.Addr.add (Go.Addr.mk (Array.size (Go.World.heap w)) (0 : Nat) Option.none) (1 : Nat)) = Option.some (Go.Value.string x_14) ∧ ((0 : Int) ≤ Go.IntKind.wrap
 Go.IntKind.i64 ((↑(ByteArray.size x_14) : Int) - (1 : Int)) ∧ Go.IntKind.wrap Go.IntKind.i64 ((↑(ByteArray.size x_14) : Int) - (1 : Int)) ≤ (↑x_13 : Int)) ∧ Go.Sx.CallsV Go.Proofs.Try.prog (15 : Nat)
 #[Go.Value.slice (Go.Sx.cutAt x_11 x_13 (0 : Nat) (1 : Nat)) (Int.toNat (Go.IntKind.wrap Go.IntKind.i64 ((↑(ByteArray.size x_14) : Int) - (1 : Int))) - (0 : Nat)) (x_13 - (0 : Nat)), Go.Value.int
 Go.IntKind.i64 (0 : Int)] w'_1 fun (v : Go.Value) (w' : Go.World) => ∃ (x_15 : Int), ∃ (x_16 : Int), ∃ (x_17 : Int), v = Go.Value.tuple #[Go.Value.int Go.IntKind.u64 x_15, Go.Value.int Go.IntKind.i64
 x_16, Go.Value.int Go.IntKind.i64 x_17] ∧ ∃ (S : Go.World → Prop), S (Go.World.drew w') ∧ ∃ (x_18 : Int), (∀ (u : Go.World), S u → Go.World.cell? u (Go.Addr.add (Go.Addr.mk (Array.size (Go.World.heap
 w)) (0 : Nat) Option.none) (0 : Nat)) = Option.some (Go.Value.int Go.IntKind.u64 x_18)) ∧ ∃ (x_19 : ByteArray), (∀ (u : Go.World), S u → Go.World.cell? u (Go.Addr.add (Go.Addr.mk (Array.size
 (Go.World.heap w)) (0 : Nat) Option.none) (1 : Nat)) = Option.some (Go.Value.string x_19)) ∧ Go.Sx.CallsV Go.Proofs.Try.prog (20 : Nat) #[Go.Value.slice Option.none (0 : Nat) (0 : Nat), Go.Value.int
 Go.IntKind.u64 x_18] (Go.World.drew w') fun (v : Go.Value) (w' : Go.World) => ∃ (x_20 : Option Go.Addr), ∃ (x_21 : Nat), ∃ (x_22 : Nat), v = Go.Value.slice x_20 x_21 x_22 ∧ ∃ (S' : Go.World → Prop), (∀
 (u : Go.World), S' u → S u) ∧ S' w' ∧ ∃ (r : ByteArray), (∀ (u : Go.World), S' u → Go.Sx.RunsTo Go.Proofs.Try.prog (Go.convert (30 : Nat) (9 : Nat) (Go.Value.slice x_20 x_21 x_22)) u (Go.Value.string
 r) u) ∧ bif !ByteArray.toList r == ByteArray.toList x_19 then K (Go.Value.bool Bool.false) w' else ∃ (x_23 : Int), (∀ (u : Go.World), S' u → Go.World.cell? u (Go.Addr.add (Go.Addr.mk (Array.size
 (Go.World.heap w)) (0 : Nat) Option.none) (0 : Nat)) = Option.some (Go.Value.int Go.IntKind.u64 x_23)) ∧ bif !Decidable.decide (x_7 = x_23) then K (Go.Value.bool Bool.false) w' else ∃ (x_24 :
 ByteArray), (∀ (u : Go.World), S' u → Go.World.cell? u (Go.Addr.add (Go.Addr.mk (Array.size (Go.World.heap w)) (0 : Nat) Option.none) (1 : Nat)) = Option.some (Go.Value.string x_24)) ∧ bif
 !Decidable.decide (x_8 = (↑(ByteArray.size x_24) : Int)) then K (Go.Value.bool Bool.false) w' else bif !Decidable.decide (x_9 = (0 : Int)) then K (Go.Value.bool Bool.false) w' else bif
 !Decidable.decide (x_17 = (11 : Int)) then K (Go.Value.bool Bool.false) w' else I (Go.IntKind.wrap Go.IntKind.i64 (x + (1 : Int))) w' ∧ μ (Go.IntKind.wrap Go.IntKind.i64 (x + (1 : Int))) w' < μ x w
 else K (Go.Value.bool Bool.true) w
theorem cardindexlaw01_fits.eq (l_A : Option Addr) (l_n : Nat) (l_c : Nat) (w : World) (K : Value → World → Prop) : cardindexlaw01_fits.W l_A l_n l_c w K = fnW Try.prog Try.f10 (.seq .auto (.seq (.seq .auto (.block (.loop [(13, .one (.int .i64))] .auto))) .auto)) [.slice l_A l_n l_c] w K := by kernel_rfl
theorem cardindexlaw01_fits.calls (ok : Okay Try.prog) {l_A : Option Addr} {l_n : Nat} {l_c : Nat} {w : World} {K : Value → World → Prop} (h : cardindexlaw01_fits.W l_A l_n l_c w K) : CallsV Try.prog 10 #[.slice l_A l_n l_c] w K :=
  fnW_calls ok Try.func10 (an := (.seq .auto (.seq (.seq .auto (.block (.loop [(13, .one (.int .i64))] .auto))) .auto))) (args := [.slice l_A l_n l_c]) (by rw [← cardindexlaw01_fits.eq]; exact h)
noncomputable def cardindexlaw01_bad.W : ByteArray → Int → World → (Value → World → Prop) → Prop := fun (b : ByteArray) (atx : Int) (w : Go.World) (K : Go.Value → Go.World → Prop) => ∃ (x : Option
 Go.Addr), ∃ (x_1 : Nat), ∃ (x_2 : Nat), ∃ (w' : Go.World), Go.Sx.RunsTo Go.Proofs.Try.prog (Go.convert (9 : Nat) (30 : Nat) (Go.Value.string b)) w (Go.Value.slice x x_1 x_2) w' ∧ Go.Sx.CallsV
 Go.Proofs.Try.prog (15 : Nat) #[Go.Value.slice x x_1 x_2, Go.Value.int Go.IntKind.i64 atx] w' fun (v : Go.Value) (w' : Go.World) => ∃ (x : Int), ∃ (x_3 : Int), ∃ (x_4 : Int), v = Go.Value.tuple
 #[Go.Value.int Go.IntKind.u64 x, Go.Value.int Go.IntKind.i64 x_3, Go.Value.int Go.IntKind.i64 x_4] ∧ bif !Decidable.decide (x = (0 : Int)) then K (Go.Value.int Go.IntKind.i64 (-1 : Int)) w' else bif
 !Decidable.decide (x_3 = (0 : Int)) then K (Go.Value.int Go.IntKind.i64 (-1 : Int)) w' else K (Go.Value.int Go.IntKind.i64 x_4) w'
theorem cardindexlaw01_bad.eq (b : ByteArray) (atx : Int) (w : World) (K : Value → World → Prop) : cardindexlaw01_bad.W b atx w K = fnW Try.prog Try.f11 .auto [.string b, .int .i64 atx] w K := by kernel_rfl
theorem cardindexlaw01_bad.calls (ok : Okay Try.prog) {b : ByteArray} {atx : Int} {w : World} {K : Value → World → Prop} (h : cardindexlaw01_bad.W b atx w K) : CallsV Try.prog 11 #[.string b, .int .i64 atx] w K :=
  fnW_calls ok Try.func11 (an := .auto) (args := [.string b, .int .i64 atx]) (by rw [← cardindexlaw01_bad.eq]; exact h)
noncomputable def cardindexlaw01_awake.W : World → (Value → World → Prop) → Prop := fun (w : Go.World) (K : Go.Value → Go.World → Prop) => ∃ (x : Option Go.Addr), ∃ (x_1 : Nat), ∃ (x_2 : Nat), ∃ (w' :
 Go.World), Go.Sx.RunsTo Go.Proofs.Try.prog (Go.convert (30 : Nat) (30 : Nat) (Go.Value.slice (Option.some (Go.Addr.mk (Array.size (Go.World.heap w)) (0 : Nat) Option.none)) (2 : Nat) (2 : Nat)))
 (Go.World.alloc w (Go.Obj.cells #[Go.Value.int Go.IntKind.u8 (97 : Int), Go.Value.int Go.IntKind.u8 (98 : Int)] (5 : Nat))) (Go.Value.slice x x_1 x_2) w' ∧ Go.Sx.CallsV Go.Proofs.Try.prog (22 : Nat)
 #[Go.Value.slice Option.none (0 : Nat) (0 : Nat), Go.Value.slice (Option.some (Go.Addr.mk (Array.size (Go.World.heap w')) (0 : Nat) Option.none)) (2 : Nat) (2 : Nat)] (Go.World.alloc w' (Go.Obj.cells
 #[Go.Value.slice x x_1 x_2, Go.Value.slice Option.none (0 : Nat) (0 : Nat)] (30 : Nat))) fun (v : Go.Value) (w' : Go.World) => ∃ (x : Option Go.Addr), ∃ (x_3 : Nat), ∃ (x_4 : Nat), v = Go.Value.slice x
 x_3 x_4 ∧ Go.Sx.CallsV Go.Proofs.Try.prog (13 : Nat) #[Go.Value.slice x x_3 x_4, Go.Value.int Go.IntKind.i64 (0 : Int), Go.Value.int Go.IntKind.i64 (2 : Int), Go.Value.int Go.IntKind.i64 (2 : Int)] w'
 fun (v : Go.Value) (w' : Go.World) => ∃ (x_5 : Option Go.Addr), ∃ (x_6 : Nat), ∃ (x_7 : Nat), ∃ (x_8 : Int), ∃ (x_9 : Int), v = Go.Value.tuple #[Go.Value.slice x_5 x_6 x_7, Go.Value.int Go.IntKind.i64
 x_8, Go.Value.int Go.IntKind.i64 x_9] ∧ Go.Sx.CallsV Go.Proofs.Try.prog (13 : Nat) #[Go.Value.slice x x_3 x_4, Go.Value.int Go.IntKind.i64 (0 : Int), Go.Value.int Go.IntKind.i64 (1 : Int), Go.Value.int
 Go.IntKind.i64 (2 : Int)] w' fun (v : Go.Value) (w' : Go.World) => ∃ (x_10 : Option Go.Addr), ∃ (x_11 : Nat), ∃ (x_12 : Nat), ∃ (x_13 : Int), ∃ (x_14 : Int), v = Go.Value.tuple #[Go.Value.slice x_10
 x_11 x_12, Go.Value.int Go.IntKind.i64 x_13, Go.Value.int Go.IntKind.i64 x_14] ∧ Go.Sx.CallsV Go.Proofs.Try.prog (13 : Nat) #[Go.Value.slice x x_3 x_4, Go.Value.int Go.IntKind.i64 (0 : Int),
 Go.Value.int Go.IntKind.i64 (2 : Int), Go.Value.int Go.IntKind.i64 (1 : Int)] w' fun (v : Go.Value) (w' : Go.World) => ∃ (x_15 : Option Go.Addr), ∃ (x_16 : Nat), ∃ (x_17 : Nat), ∃ (x_18 : Int), ∃ (x_19
 : Int), v = Go.Value.tuple #[Go.Value.slice x_15 x_16 x_17, Go.Value.int Go.IntKind.i64 x_18, Go.Value.int Go.IntKind.i64 x_19] ∧ Go.Sx.CallsV Go.Proofs.Try.prog (15 : Nat) #[Go.Value.slice
 (Option.some (Go.Addr.mk (Array.size (Go.World.heap w')) (0 : Nat) Option.none)) (3 : Nat) (3 : Nat), Go.Value.int Go.IntKind.i64 (1 : Int)] (Go.World.alloc w' (Go.Obj.cells #[Go.Value.int
 Go.IntKind.u8 (9 : Int), Go.Value.int Go.IntKind.u8 (172 : Int), Go.Value.int Go.IntKind.u8 (2 : Int)] (5 : Nat))) fun (v : Go.Value) (w' : Go.World) => ∃ (x_20 : Int), ∃ (x_21 : Int), ∃ (x_22 : Int),
 v = Go.Value.tuple #[Go.Value.int Go.IntKind.u64 x_20, Go.Value.int Go.IntKind.i64 x_21, Go.Value.int Go.IntKind.i64 x_22] ∧ Go.Sx.CallsV Go.Proofs.Try.prog (10 : Nat) #[Go.Value.slice (Option.some
 (Go.Addr.mk (Array.size (Go.World.heap w')) (0 : Nat) Option.none)) (4 : Nat) (4 : Nat)] (Go.World.alloc w' (Go.Obj.cells #[Go.Value.int Go.IntKind.u64 (5 : Int), Go.Value.string (ByteArray.mk #[(5 :
 UInt8)]), Go.Value.int Go.IntKind.u64 (127 : Int), Go.Value.string (ByteArray.mk #[(127 : UInt8)]), Go.Value.int Go.IntKind.u64 (128 : Int), Go.Value.string (ByteArray.mk #[(128 : UInt8), (1 :
 UInt8)]), Go.Value.int Go.IntKind.u64 (300 : Int), Go.Value.string (ByteArray.mk #[(172 : UInt8), (2 : UInt8)])] (25 : Nat))) fun (v : Go.Value) (w' : Go.World) => ∃ (x_23 : Bool), v = Go.Value.bool
 x_23 ∧ bif x_23 then ∃ (x_24 : Option Go.Addr), ∃ (x_25 : Nat), ∃ (x_26 : Nat), ∃ (w'_1 : Go.World), Go.Sx.RunsTo Go.Proofs.Try.prog (Go.convert (30 : Nat) (30 : Nat) (Go.Value.slice (Option.some
 (Go.Addr.mk (Array.size (Go.World.heap w')) (0 : Nat) Option.none)) (2 : Nat) (2 : Nat))) (Go.World.alloc w' (Go.Obj.cells #[Go.Value.int Go.IntKind.u8 (97 : Int), Go.Value.int Go.IntKind.u8 (98 :
 Int)] (5 : Nat))) (Go.Value.slice x_24 x_25 x_26) w'_1 ∧ Go.Sx.CallsV Go.Proofs.Try.prog (21 : Nat) #[Go.Value.slice Option.none (0 : Nat) (0 : Nat), Go.Value.slice x_24 x_25 x_26] w'_1 fun (v :
 Go.Value) (w' : Go.World) => ∃ (x_27 : Option Go.Addr), ∃ (x_28 : Nat), ∃ (x_29 : Nat), v = Go.Value.slice x_27 x_28 x_29 ∧ ∃ (x_30 : ByteArray), ∃ (w'_2 : Go.World), Go.Sx.RunsTo Go.Proofs.Try.prog
 (Go.convert (30 : Nat) (9 : Nat) (Go.Value.slice x_27 x_28 x_29)) w' (Go.Value.string x_30) w'_2 ∧ bif ByteArray.toList x_30 == ByteArray.toList (ByteArray.mk #[(2 : UInt8), (97 : UInt8), (98 :
 UInt8)]) then ∃ (x_31 : ByteArray), ∃ (w' : Go.World), Go.Sx.RunsTo Go.Proofs.Try.prog (Go.convert (30 : Nat) (9 : Nat) (Go.Value.slice x x_3 x_4)) w'_2 (Go.Value.string x_31) w' ∧ bif ByteArray.toList
 x_31 == ByteArray.toList (ByteArray.mk #[(2 : UInt8), (2 : UInt8), (97 : UInt8), (98 : UInt8), (0 : UInt8)]) then bif Decidable.decide (x_9 = (0 : Int)) then bif Decidable.decide (x_8 = (5 : Int)) then
 ∃ (x : Option Go.Addr), ∃ (x_32 : Nat), ∃ (x_33 : Nat), ∃ (w'_3 : Go.World), Go.Sx.RunsTo Go.Proofs.Try.prog (Go.convert (30 : Nat) (30 : Nat) (Go.Value.slice (Option.some (Go.Addr.mk (Array.size
 (Go.World.heap w')) (0 : Nat) Option.none)) (2 : Nat) (2 : Nat))) (Go.World.alloc w' (Go.Obj.cells #[Go.Value.int Go.IntKind.u8 (97 : Int), Go.Value.int Go.IntKind.u8 (98 : Int)] (5 : Nat)))
 (Go.Value.slice x x_32 x_33) w'_3 ∧ Go.Sx.CallsV Go.Proofs.Try.prog (19 : Nat) #[Go.Value.slice x_5 x_6 x_7, Go.Value.slice (Option.some (Go.Addr.mk (Array.size (Go.World.heap w'_3)) (0 : Nat)
 Option.none)) (2 : Nat) (2 : Nat)] (Go.World.alloc w'_3 (Go.Obj.cells #[Go.Value.slice x x_32 x_33, Go.Value.slice Option.none (0 : Nat) (0 : Nat)] (30 : Nat))) fun (v : Go.Value) (w' : Go.World) => ∃
 (x : Bool), v = Go.Value.bool x ∧ bif x then bif Decidable.decide (x_14 = (3 : Int)) then bif Decidable.decide (x_19 = (3 : Int)) then bif Decidable.decide (x_20 = (300 : Int)) then bif
 Decidable.decide (x_21 = (3 : Int)) then bif Decidable.decide (x_22 = (0 : Int)) then Go.Sx.CallsV Go.Proofs.Try.prog (11 : Nat) #[Go.Value.string (ByteArray.mk #[(128 : UInt8), (0 : UInt8)]),
 Go.Value.int Go.IntKind.i64 (0 : Int)] w' fun (v : Go.Value) (w' : Go.World) => ∃ (x : Int), v = Go.Value.int Go.IntKind.i64 x ∧ bif Decidable.decide (x = (10 : Int)) then Go.Sx.CallsV
 Go.Proofs.Try.prog (11 : Nat) #[Go.Value.string (ByteArray.mk #[(128 : UInt8)]), Go.Value.int Go.IntKind.i64 (0 : Int)] w' fun (v : Go.Value) (w' : Go.World) => ∃ (x : Int), v = Go.Value.int
 Go.IntKind.i64 x ∧ K (Go.Value.bool (Decidable.decide (x = (11 : Int)))) w' else K (Go.Value.bool Bool.false) w' else K (Go.Value.bool Bool.false) w' else K (Go.Value.bool Bool.false) w' else K
 (Go.Value.bool Bool.false) w' else K (Go.Value.bool Bool.false) w' else K (Go.Value.bool Bool.false) w' else K (Go.Value.bool Bool.false) w' else K (Go.Value.bool Bool.false) w' else K (Go.Value.bool
 Bool.false) w' else K (Go.Value.bool Bool.false) w' else K (Go.Value.bool Bool.false) w'_2 else K (Go.Value.bool Bool.false) w'
theorem cardindexlaw01_awake.eq  (w : World) (K : Value → World → Prop) : cardindexlaw01_awake.W  w K = fnW Try.prog Try.f14 .auto [] w K := by kernel_rfl
theorem cardindexlaw01_awake.calls (ok : Okay Try.prog)  {w : World} {K : Value → World → Prop} (h : cardindexlaw01_awake.W  w K) : CallsV Try.prog 14 #[] w K :=
  fnW_calls ok Try.func14 (an := .auto) (args := []) (by rw [← cardindexlaw01_awake.eq]; exact h)
end Go.Proofs.Ytbpcfkahnhlahaa
