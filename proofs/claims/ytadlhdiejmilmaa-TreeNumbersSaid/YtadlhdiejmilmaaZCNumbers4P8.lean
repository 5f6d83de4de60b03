/- Part 8 of the texts of this claim: the engine, contracts, plain laws. -/
import Derived.Test.YtadlhdiejmilmaaProg
import Derived.Test.YtadlhdiejmilmaaZCNumbers4P1
import Derived.Test.YtadlhdiejmilmaaZCNumbers4P7
/- The preconditions of Go functions, printed by a program of this workplace (nests.py); each is proved to be the engine's own. -/
set_option linter.unusedVariables false
set_option maxRecDepth 100000
namespace Go.Proofs.Ytadlhdiejmilmaa
open Go Go.Sx
noncomputable def cardindexlaw04_b.W : ByteArray → World → (Value → World → Prop) → Prop := fun (s : ByteArray) (w : Go.World) (K : Go.Value → Go.World → Prop) => ∃ (x : Option Go.Addr), ∃ (x_1 : Nat),
 ∃ (x_2 : Nat), ∃ (w' : Go.World), Go.Sx.RunsTo Go.Proofs.Try.prog (Go.convert (9 : Nat) (36 : Nat) (Go.Value.string s)) w (Go.Value.slice x x_1 x_2) w' ∧ K (Go.Value.slice x x_1 x_2) w'
theorem cardindexlaw04_b.eq (s : ByteArray) (w : World) (K : Value → World → Prop) : cardindexlaw04_b.W s w K = fnW Try.prog Try.f54 (.named .auto) [.string s] w K := by kernel_rfl
theorem cardindexlaw04_b.calls (ok : Okay Try.prog) {s : ByteArray} {w : World} {K : Value → World → Prop} (h : cardindexlaw04_b.W s w K) : CallsV Try.prog 54 #[.string s] w K :=
  fnW_calls ok Try.func54 (an := (.named .auto)) (args := [.string s]) (by rw [← cardindexlaw04_b.eq]; exact h)
noncomputable def cardindexlaw04_tells.W : Option Addr → Nat → Nat → Option Addr → Nat → Nat → Bool → ByteArray → ByteArray → World → (Value → World → Prop) → Prop := fun (k_A : Option Go.Addr) (k_n
 k_c : Nat) (v_A : Option Go.Addr) (v_n v_c : Nat) (okx : Bool) (key val : ByteArray) (w : Go.World) (K : Go.Value → Go.World → Prop) => bif Decidable.decide (okx = !ByteArray.toList key ==
 ByteArray.toList (ByteArray.mk #[])) then ∃ (x : ByteArray), ∃ (w' : Go.World), Go.Sx.RunsTo Go.Proofs.Try.prog (Go.convert (36 : Nat) (9 : Nat) (Go.Value.slice k_A k_n k_c)) w (Go.Value.string x) w' ∧
 bif ByteArray.toList x == ByteArray.toList key then ∃ (x : ByteArray), ∃ (w'_1 : Go.World), Go.Sx.RunsTo Go.Proofs.Try.prog (Go.convert (36 : Nat) (9 : Nat) (Go.Value.slice v_A v_n v_c)) w'
 (Go.Value.string x) w'_1 ∧ K (Go.Value.bool (ByteArray.toList x == ByteArray.toList val)) w'_1 else K (Go.Value.bool Bool.false) w' else K (Go.Value.bool Bool.false) w
theorem cardindexlaw04_tells.eq (k_A : Option Addr) (k_n : Nat) (k_c : Nat) (v_A : Option Addr) (v_n : Nat) (v_c : Nat) (okx : Bool) (key : ByteArray) (val : ByteArray) (w : World) (K : Value → World → Prop) : cardindexlaw04_tells.W k_A k_n k_c v_A v_n v_c okx key val w K = fnW Try.prog Try.f55 (.named .auto) [.slice k_A k_n k_c, .slice v_A v_n v_c, .bool okx, .string key, .string val] w K := by kernel_rfl
theorem cardindexlaw04_tells.calls (ok : Okay Try.prog) {k_A : Option Addr} {k_n : Nat} {k_c : Nat} {v_A : Option Addr} {v_n : Nat} {v_c : Nat} {okx : Bool} {key : ByteArray} {val : ByteArray} {w : World} {K : Value → World → Prop} (h : cardindexlaw04_tells.W k_A k_n k_c v_A v_n v_c okx key val w K) : CallsV Try.prog 55 #[.slice k_A k_n k_c, .slice v_A v_n v_c, .bool okx, .string key, .string val] w K :=
  fnW_calls ok Try.func55 (an := (.named .auto)) (args := [.slice k_A k_n k_c, .slice v_A v_n v_c, .bool okx, .string key, .string val]) (by rw [← cardindexlaw04_tells.eq]; exact h)
noncomputable def cardindexlaw04_awake.W : World → (Value → World → Prop) → Prop := fun (w : Go.World) (K : Go.Value → Go.World → Prop) => Go.Sx.CallsV Go.Proofs.Try.prog (13 : Nat) #[Go.Value.int
 Go.IntKind.i64 (4 : Int), Go.Value.int Go.IntKind.i64 (10 : Int)] w fun (v : Go.Value) (w' : Go.World) => ∃ (x : Option Go.Addr), ∃ (x_1 : Int), v = Go.Value.tuple #[Go.Value.pointer x, Go.Value.int
 Go.IntKind.i64 x_1] ∧ Go.Sx.CallsV Go.Proofs.Try.prog (14 : Nat) #[Go.Value.pointer x] w' fun (v : Go.Value) (w' : Go.World) => ∃ (x_2 : Int), ∃ (x_3 : Int), v = Go.Value.tuple #[Go.Value.int
 Go.IntKind.i64 x_2, Go.Value.int Go.IntKind.i64 x_3] ∧ bif !Decidable.decide (x_1 = (0 : Int)) then K (Go.Value.bool Bool.false) w' else bif !Decidable.decide (x_3 = (0 : Int)) then K (Go.Value.bool
 Bool.false) w' else bif !Decidable.decide (x_2 = (1 : Int)) then K (Go.Value.bool Bool.false) w' else Go.Sx.CallsV Go.Proofs.Try.prog (54 : Nat) #[Go.Value.string (ByteArray.mk #[(98 : UInt8)])] w' fun
 (v : Go.Value) (w' : Go.World) => ∃ (x_4 : Option Go.Addr), ∃ (x_5 : Nat), ∃ (x_6 : Nat), v = Go.Value.slice x_4 x_5 x_6 ∧ Go.Sx.CallsV Go.Proofs.Try.prog (54 : Nat) #[Go.Value.string (ByteArray.mk
 #[(50 : UInt8)])] w' fun (v : Go.Value) (w' : Go.World) => ∃ (x_7 : Option Go.Addr), ∃ (x_8 : Nat), ∃ (x_9 : Nat), v = Go.Value.slice x_7 x_8 x_9 ∧ Go.Sx.CallsV Go.Proofs.Try.prog (17 : Nat)
 #[Go.Value.pointer x, Go.Value.int Go.IntKind.i64 (1 : Int), Go.Value.slice x_4 x_5 x_6, Go.Value.slice x_7 x_8 x_9] w' fun (v : Go.Value) (w' : Go.World) => ∃ (x_10 : Bool), ∃ (x_11 : Int), v =
 Go.Value.tuple #[Go.Value.bool x_10, Go.Value.int Go.IntKind.i64 x_11] ∧ Go.Sx.CallsV Go.Proofs.Try.prog (54 : Nat) #[Go.Value.string (ByteArray.mk #[(97 : UInt8)])] w' fun (v : Go.Value) (w' :
 Go.World) => ∃ (x_12 : Option Go.Addr), ∃ (x_13 : Nat), ∃ (x_14 : Nat), v = Go.Value.slice x_12 x_13 x_14 ∧ Go.Sx.CallsV Go.Proofs.Try.prog (54 : Nat) #[Go.Value.string (ByteArray.mk #[(49 : UInt8)])]
 w' fun (v : Go.Value) (w' : Go.World) => ∃ (x_15 : Option Go.Addr), ∃ (x_16 : Nat), ∃ (x_17 : Nat), v = Go.Value.slice x_15 x_16 x_17 ∧ Go.Sx.CallsV Go.Proofs.Try.prog (17 : Nat) #[Go.Value.pointer x,
 Go.Value.int Go.IntKind.i64 (1 : Int), Go.Value.slice x_12 x_13 x_14, Go.Value.slice x_15 x_16 x_17] w' fun (v : Go.Value) (w' : Go.World) => ∃ (x_18 : Bool), ∃ (x_19 : Int), v = Go.Value.tuple
 #[Go.Value.bool x_18, Go.Value.int Go.IntKind.i64 x_19] ∧ Go.Sx.CallsV Go.Proofs.Try.prog (54 : Nat) #[Go.Value.string (ByteArray.mk #[(97 : UInt8)])] w' fun (v : Go.Value) (w' : Go.World) => ∃ (x_20 :
 Option Go.Addr), ∃ (x_21 : Nat), ∃ (x_22 : Nat), v = Go.Value.slice x_20 x_21 x_22 ∧ Go.Sx.CallsV Go.Proofs.Try.prog (54 : Nat) #[Go.Value.string (ByteArray.mk #[(51 : UInt8)])] w' fun (v : Go.Value)
 (w' : Go.World) => ∃ (x_23 : Option Go.Addr), ∃ (x_24 : Nat), ∃ (x_25 : Nat), v = Go.Value.slice x_23 x_24 x_25 ∧ Go.Sx.CallsV Go.Proofs.Try.prog (17 : Nat) #[Go.Value.pointer x, Go.Value.int
 Go.IntKind.i64 (1 : Int), Go.Value.slice x_20 x_21 x_22, Go.Value.slice x_23 x_24 x_25] w' fun (v : Go.Value) (w' : Go.World) => ∃ (x_26 : Bool), ∃ (x_27 : Int), v = Go.Value.tuple #[Go.Value.bool
 x_26, Go.Value.int Go.IntKind.i64 x_27] ∧ bif !Decidable.decide (Go.IntKind.wrap Go.IntKind.i64 (Go.IntKind.wrap Go.IntKind.i64 (x_11 + x_19) + x_27) = (0 : Int)) then K (Go.Value.bool Bool.false) w'
 else bif x_10 then K (Go.Value.bool Bool.false) w' else bif x_18 then K (Go.Value.bool Bool.false) w' else bif !x_26 then K (Go.Value.bool Bool.false) w' else Go.Sx.CallsV Go.Proofs.Try.prog (54 : Nat)
 #[Go.Value.string (ByteArray.mk #[(97 : UInt8)])] w' fun (v : Go.Value) (w' : Go.World) => ∃ (x_28 : Option Go.Addr), ∃ (x_29 : Nat), ∃ (x_30 : Nat), v = Go.Value.slice x_28 x_29 x_30 ∧ Go.Sx.CallsV
 Go.Proofs.Try.prog (24 : Nat) #[Go.Value.pointer x, Go.Value.int Go.IntKind.i64 (1 : Int), Go.Value.slice x_28 x_29 x_30, Go.Value.bool Bool.false] w' fun (v : Go.Value) (w' : Go.World) => ∃ (x_31 :
 Option Go.Addr), ∃ (x_32 : Nat), ∃ (x_33 : Nat), ∃ (x_34 : Option Go.Addr), ∃ (x_35 : Nat), ∃ (x_36 : Nat), ∃ (x_37 : Bool), v = Go.Value.tuple #[Go.Value.slice x_31 x_32 x_33, Go.Value.slice x_34 x_35
 x_36, Go.Value.bool x_37] ∧ Go.Sx.CallsV Go.Proofs.Try.prog (54 : Nat) #[Go.Value.string (ByteArray.mk #[(97 : UInt8)])] w' fun (v : Go.Value) (w' : Go.World) => ∃ (x_38 : Option Go.Addr), ∃ (x_39 :
 Nat), ∃ (x_40 : Nat), v = Go.Value.slice x_38 x_39 x_40 ∧ Go.Sx.CallsV Go.Proofs.Try.prog (24 : Nat) #[Go.Value.pointer x, Go.Value.int Go.IntKind.i64 (1 : Int), Go.Value.slice x_38 x_39 x_40,
 Go.Value.bool Bool.true] w' fun (v : Go.Value) (w' : Go.World) => ∃ (x_41 : Option Go.Addr), ∃ (x_42 : Nat), ∃ (x_43 : Nat), ∃ (x_44 : Option Go.Addr), ∃ (x_45 : Nat), ∃ (x_46 : Nat), ∃ (x_47 : Bool),
 v = Go.Value.tuple #[Go.Value.slice x_41 x_42 x_43, Go.Value.slice x_44 x_45 x_46, Go.Value.bool x_47] ∧ Go.Sx.CallsV Go.Proofs.Try.prog (54 : Nat) #[Go.Value.string (ByteArray.mk #[(97 : UInt8)])] w'
 fun (v : Go.Value) (w' : Go.World) => ∃ (x_48 : Option Go.Addr), ∃ (x_49 : Nat), ∃ (x_50 : Nat), v = Go.Value.slice x_48 x_49 x_50 ∧ Go.Sx.CallsV Go.Proofs.Try.prog (33 : Nat) #[Go.Value.pointer x,
 Go.Value.int Go.IntKind.i64 (1 : Int), Go.Value.slice x_48 x_49 x_50, Go.Value.bool Bool.false] w' fun (v : Go.Value) (w' : Go.World) => ∃ (x_51 : Option Go.Addr), ∃ (x_52 : Nat), ∃ (x_53 : Nat), ∃
 (x_54 : Option Go.Addr), ∃ (x_55 : Nat), ∃ (x_56 : Nat), ∃ (x_57 : Bool), v = Go.Value.tuple #[Go.Value.slice x_51 x_52 x_53, Go.Value.slice x_54 x_55 x_56, Go.Value.bool x_57] ∧ Go.Sx.CallsV
 Go.Proofs.Try.prog (55 : Nat) #[Go.Value.slice x_31 x_32 x_33, Go.Value.slice x_34 x_35 x_36, Go.Value.bool x_37, Go.Value.string (ByteArray.mk #[(98 : UInt8)]), Go.Value.string (ByteArray.mk #[(50 :
 UInt8)])] w' fun (v : Go.Value) (w' : Go.World) => ∃ (x_58 : Bool), v = Go.Value.bool x_58 ∧ bif !x_58 then K (Go.Value.bool Bool.false) w' else Go.Sx.CallsV Go.Proofs.Try.prog (55 : Nat)
 #[Go.Value.slice x_41 x_42 x_43, Go.Value.slice x_44 x_45 x_46, Go.Value.bool x_47, Go.Value.string (ByteArray.mk #[(97 : UInt8)]), Go.Value.string (ByteArray.mk #[(51 : UInt8)])] w' fun (v : Go.Value)
 (w' : Go.World) => ∃ (x_59 : Bool), v = Go.Value.bool x_59 ∧ bif !x_59 then K (Go.Value.bool Bool.false) w' else Go.Sx.CallsV Go.Proofs.Try.prog (55 : Nat) #[Go.Value.slice x_51 x_52 x_53,
 Go.Value.slice x_54 x_55 x_56, Go.Value.bool x_57, Go.Value.string (ByteArray.mk #[]), Go.Value.string (ByteArray.mk #[])] w' fun (v : Go.Value) (w' : Go.World) => ∃ (x_60 : Bool), v = Go.Value.bool
 x_60 ∧ bif !x_60 then K (Go.Value.bool Bool.false) w' else ∀ (g : Nat) (w'_1 : Go.World), Go.Sx.Fresh w' g w'_1 [Go.Value.string (ByteArray.mk #[(99 : UInt8)]), Go.Value.string (ByteArray.mk #[(100 :
 UInt8)]), Go.Value.string (ByteArray.mk #[(101 : UInt8)])] (9 : Nat) → ∃ (I : Int → Go.World → Prop), ∃ (μ : Int → Go.World → Nat), I (0 : Int) w'_1 ∧ ∀ (x_61 : Int) (w : Go.World), I x_61 w → bif
 Decidable.decide (x_61 < (↑(3 : Nat) : Int)) then ∃ (ad : Go.Addr), Option.some (Go.Addr.mk g (0 : Nat) Option.none) = Option.some ad ∧ ((0 : Int) ≤ x_61 ∧ x_61 < (↑(3 : Nat) : Int)) ∧ ∃ (x_62 :
 ByteArray), Go.World.cell? w (Go.Addr.add ad (Int.toNat x_61 * (1 : Nat))) = Option.some (Go.Value.string x_62) ∧ Go.Sx.CallsV Go.Proofs.Try.prog (54 : Nat) #[Go.Value.string x_62] w fun (v : Go.Value)
 (w' : Go.World) => ∃ (x_63 : Option Go.Addr), ∃ (x_64 : Nat), ∃ (x_65 : Nat), v = Go.Value.slice x_63 x_64 x_65 ∧ Go.Sx.CallsV Go.Proofs.Try.prog (17 : Nat) #[Go.Value.pointer x, Go.Value.int
 Go.IntKind.i64 (1 : Int), Go.Value.slice x_63 x_64 x_65, Go.Value.slice Option.none (0 : Nat) (0 : Nat)] w' fun (v : Go.Value) (w' : Go.World) => ∃ (x : Bool), ∃ (x_66 : Int), v = Go.Value.tuple
 #[Go.Value.bool x, Go.Value.int Go.IntKind.i64 x_66] ∧ I (Go.IntKind.wrap Go.IntKind.i64 (x_61 + (1 : Int))) w' ∧ μ (Go.IntKind.wrap Go.IntKind.i64 (x_61 + (1 : Int))) w' < μ x_61 w else Go.Sx.CallsV
 Go.Proofs.Try.prog (28 : Nat) #[Go.Value.pointer x, Go.Value.int Go.IntKind.i64 (1 : Int)] w fun (v : Go.Value) (w' : Go.World) => ∃ (x_62 : Int), v = Go.Value.int Go.IntKind.i64 x_62 ∧ bif
 Decidable.decide (x_62 = (5 : Int)) then Go.Sx.CallsV Go.Proofs.Try.prog (16 : Nat) #[Go.Value.pointer x, Go.Value.int Go.IntKind.i64 (1 : Int)] w' fun (v : Go.Value) (w' : Go.World) => ∃ (x_63 : Int),
 v = Go.Value.int Go.IntKind.i64 x_63 ∧ bif Decidable.decide (x_63 = (2 : Int)) then Go.Sx.CallsV Go.Proofs.Try.prog (15 : Nat) #[Go.Value.pointer x] w' fun (v : Go.Value) (w' : Go.World) => ∃ (x_64 :
 Int), v = Go.Value.int Go.IntKind.i64 x_64 ∧ bif Decidable.decide (x_64 = (3 : Int)) then Go.Sx.CallsV Go.Proofs.Try.prog (19 : Nat) #[Go.Value.pointer x] w' fun (v : Go.Value) (w' : Go.World) => ∃ (x
 : Int), v = Go.Value.int Go.IntKind.i64 x ∧ K (Go.Value.bool (Decidable.decide (x = (0 : Int)))) w' else K (Go.Value.bool Bool.false) w' else K (Go.Value.bool Bool.false) w' else K (Go.Value.bool
 Bool.false) w'
theorem cardindexlaw04_awake.eq  (w : World) (K : Value → World → Prop) : cardindexlaw04_awake.W  w K = fnW Try.prog Try.f21 (.named (.seq .auto (.seq .auto (.seq .auto (.seq .auto (.seq .auto (.seq .auto (.seq .auto (.seq .auto (.seq .auto (.seq .auto (.seq .auto (.seq .auto (.seq (.seq .auto (.block (.loop [(120, .one (.int .i64))] .auto))) .auto)))))))))))))) [] w K := by kernel_rfl
theorem cardindexlaw04_awake.calls (ok : Okay Try.prog)  {w : World} {K : Value → World → Prop} (h : cardindexlaw04_awake.W  w K) : CallsV Try.prog 21 #[] w K :=
  fnW_calls ok Try.func21 (an := (.named (.seq .auto (.seq .auto (.seq .auto (.seq .auto (.seq .auto (.seq .auto (.seq .auto (.seq .auto (.seq .auto (.seq .auto (.seq .auto (.seq .auto (.seq (.seq .auto (.block (.loop [(120, .one (.int .i64))] .auto))) .auto))))))))))))))) (args := []) (by rw [← cardindexlaw04_awake.eq]; exact h)
noncomputable def cardindexlaw04_key.W : Int → World → (Value → World → Prop) → Prop := fun (n : Int) (w : Go.World) (K : Go.Value → Go.World → Prop) => (0 : Int) ≤ (8 : Int) ∧ ∀ (g : Nat) (w' :
 Go.World), Go.Sx.Fresh w g w' [Go.Value.int Go.IntKind.u8 (Go.IntKind.wrap Go.IntKind.u8 (Int.fdiv n ((2 : Int) ^ Min.min (Int.toNat (8 : Int)) (64 : Nat)))), Go.Value.int Go.IntKind.u8
 (Go.IntKind.wrap Go.IntKind.u8 n)] (5 : Nat) → K (Go.Value.slice (Option.some (Go.Addr.mk g (0 : Nat) Option.none)) (2 : Nat) (2 : Nat)) w'
theorem cardindexlaw04_key.eq (n : Int) (w : World) (K : Value → World → Prop) : cardindexlaw04_key.W n w K = fnW Try.prog Try.f18 (.named .auto) [.int .i64 n] w K := by kernel_rfl
theorem cardindexlaw04_key.calls (ok : Okay Try.prog) {n : Int} {w : World} {K : Value → World → Prop} (h : cardindexlaw04_key.W n w K) : CallsV Try.prog 18 #[.int .i64 n] w K :=
  fnW_calls ok Try.func18 (an := (.named .auto)) (args := [.int .i64 n]) (by rw [← cardindexlaw04_key.eq]; exact h)
noncomputable def cardindexlaw04_walks.W : Option Addr → Option Nat → World → (Value → World → Prop) → Prop := fun (a : Option Go.Addr) (there : Option Nat) (w : Go.World) (K : Go.Value → Go.World →
 Prop) => Go.Sx.CallsV Go.Proofs.Try.prog (28 : Nat) #[Go.Value.pointer a, Go.Value.int Go.IntKind.i64 (1 : Int)] w fun (v : Go.Value) (w' : Go.World) => ∃ (x : Int), v = Go.Value.int Go.IntKind.i64 x ∧
 ∃ (x_1 : Int), ∃ (w'_1 : Go.World), Go.Sx.RunsTo Go.Proofs.Try.prog (Go.Builtin.len_ (Array.mk [(30 : Nat)]) (3 : Nat) #[Go.Value.map there]) w' (Go.Value.int Go.IntKind.i64 x_1) w'_1 ∧ bif
 !Decidable.decide (x = x_1) then K (Go.Value.bool Bool.false) w'_1 else Go.Sx.CallsV Go.Proofs.Try.prog (24 : Nat) #[Go.Value.pointer a, Go.Value.int Go.IntKind.i64 (1 : Int), Go.Value.slice
 Option.none (0 : Nat) (0 : Nat), Go.Value.bool Bool.true] w'_1 fun (v : Go.Value) (w' : Go.World) => ∃ (x : Option Go.Addr), ∃ (x_2 : Nat), ∃ (x_3 : Nat), ∃ (x_4 : Option Go.Addr), ∃ (x_5 : Nat), ∃
 (x_6 : Nat), ∃ (x_7 : Bool), v = Go.Value.tuple #[Go.Value.slice x x_2 x_3, Go.Value.slice x_4 x_5 x_6, Go.Value.bool x_7] ∧ ∃ (I : Option Go.Addr → Nat → Nat → Int → Option Go.Addr → Nat → Nat →
 Option Go.Addr → Nat → Nat → Bool → Go.World → Prop), ∃ (μ : Option Go.Addr → Nat → Nat → Int → Option Go.Addr → Nat → Nat → Option Go.Addr → Nat → Nat → Bool → Go.World → Nat), I Option.none (0 : Nat)
 (0 : Nat) (0 : Int) x x_2 x_3 x_4 x_5 x_6 x_7 w' ∧ ∀ (x : Option Go.Addr) (x_8 x_9 : Nat) (x_10 : Int) (x_11 : Option Go.Addr) (x_12 x_13 : Nat) (x_14 : Option Go.Addr) (x_15 x_16 : Nat) (x_17 : Bool)
 (w : Go.World), I x x_8 x_9 x_10 x_11 x_12 x_13 x_14 x_15 x_16 x_17 w → bif x_17 then ∃ (J : Go.World → Prop), (∀ (w_1 : Go.World), J w_1 → ∃ (ad : Go.Addr), x_11 = Option.some ad ∧ ((0 : Int) ≤ (0 :
 Int) ∧ (0 : Int) < (↑x_12 : Int)) ∧ ∃ (S : Go.World → Prop), S (Go.World.drew w_1) ∧ ∃ (x_18 : Int), (∀ (u : Go.World), S u → Go.World.cell? u (Go.Addr.add ad (Int.toNat (0 : Int) * (1 : Nat))) =
 Option.some (Go.Value.int Go.IntKind.u8 x_18)) ∧ ∃ (ad : Go.Addr), x_11 = Option.some ad ∧ ((0 : Int) ≤ (1 : Int) ∧ (1 : Int) < (↑x_12 : Int)) ∧ ∃ (x_19 : Int), (∀ (u : Go.World), S u → Go.World.cell?
 u (Go.Addr.add ad (Int.toNat (1 : Int) * (1 : Nat))) = Option.some (Go.Value.int Go.IntKind.u8 x_19)) ∧ ∃ (x_20 : Int), ∃ (x_21 : Bool), ∃ (w' : Go.World), Go.Sx.RunsTo Go.Proofs.Try.prog
 (Go.Instr.lookup (30 : Nat) (Go.Value.map there) (Go.Value.int Go.IntKind.i64 (Go.IntKind.wrap Go.IntKind.i64 (Go.IntKind.wrap Go.IntKind.i64 ((256 : Int) * Go.IntKind.wrap Go.IntKind.i64 x_18) +
 Go.IntKind.wrap Go.IntKind.i64 x_19))) Bool.true) (Go.World.drew w_1) (Go.Value.tuple #[Go.Value.int Go.IntKind.i64 x_20, Go.Value.bool x_21]) w' ∧ S w' ∧ bif !x_21 then K (Go.Value.bool Bool.false) w'
 else Go.Sx.CallsV Go.Proofs.Try.prog (18 : Nat) #[Go.Value.int Go.IntKind.i64 x_20] w' fun (v : Go.Value) (w' : Go.World) => ∃ (x_22 : Option Go.Addr), ∃ (x_23 : Nat), ∃ (x_24 : Nat), v =
 Go.Value.slice x_22 x_23 x_24 ∧ Go.Sx.CallsV Go.Proofs.Try.prog (26 : Nat) #[Go.Value.slice x_14 x_15 x_16, Go.Value.slice x_22 x_23 x_24] w' fun (v : Go.Value) (w' : Go.World) => ∃ (x_25 : Bool), v =
 Go.Value.bool x_25 ∧ bif !x_25 then K (Go.Value.bool Bool.false) w' else Go.Sx.CallsV Go.Proofs.Try.prog (24 : Nat) #[Go.Value.pointer a, Go.Value.int Go.IntKind.i64 (1 : Int), Go.Value.slice x_11 x_12
 x_13, Go.Value.bool Bool.false] w' fun (v : Go.Value) (w' : Go.World) => ∃ (x_26 : Option Go.Addr), ∃ (x_27 : Nat), ∃ (x_28 : Nat), ∃ (x_29 : Option Go.Addr), ∃ (x_30 : Nat), ∃ (x_31 : Nat), ∃ (x_32 :
 Bool), v = Go.Value.tuple #[Go.Value.slice x_26 x_27 x_28, Go.Value.slice x_29 x_30 x_31, Go.Value.bool x_32] ∧ I x_11 x_12 x_13 (Go.IntKind.wrap Go.IntKind.i64 (x_10 + (1 : Int))) x_26 x_27 x_28 x_29
 x_30 x_31 x_32 w' ∧ μ x_11 x_12 x_13 (Go.IntKind.wrap Go.IntKind.i64 (x_10 + (1 : Int))) x_26 x_27 x_28 x_29 x_30 x_31 x_32 w' < μ x x_8 x_9 x_10 x_11 x_12 x_13 x_14 x_15 x_16 x_17 w) ∧ bif
 !Decidable.decide ((↑x_12 : Int) = (2 : Int)) then K (Go.Value.bool Bool.false) w else bif Decidable.decide ((0 : Int) < x_10) then ∃ (x_18 : ByteArray), ∃ (w' : Go.World), Go.Sx.RunsTo
 Go.Proofs.Try.prog (Go.convert (36 : Nat) (9 : Nat) (Go.Value.slice x_11 x_12 x_13)) w (Go.Value.string x_18) w' ∧ ∃ (x_19 : ByteArray), ∃ (w'_2 : Go.World), Go.Sx.RunsTo Go.Proofs.Try.prog (Go.convert
 (36 : Nat) (9 : Nat) (Go.Value.slice x x_8 x_9)) w' (Go.Value.string x_19) w'_2 ∧ bif Go.Op.bytesLess (ByteArray.toList x_18) (ByteArray.toList x_19) || ByteArray.toList x_18 == ByteArray.toList x_19
 then K (Go.Value.bool Bool.false) w'_2 else J w'_2 else J w else ∃ (x_18 : Int), ∃ (w' : Go.World), Go.Sx.RunsTo Go.Proofs.Try.prog (Go.Builtin.len_ (Array.mk [(30 : Nat)]) (3 : Nat) #[Go.Value.map
 there]) w (Go.Value.int Go.IntKind.i64 x_18) w' ∧ bif !Decidable.decide (x_10 = x_18) then K (Go.Value.bool Bool.false) w' else Go.Sx.CallsV Go.Proofs.Try.prog (25 : Nat) #[Go.Value.pointer a,
 Go.Value.int Go.IntKind.i64 (1 : Int)] w' fun (v : Go.Value) (w' : Go.World) => ∃ (x_19 : Option Go.Addr), ∃ (x_20 : Nat), ∃ (x_21 : Nat), ∃ (x_22 : Option Go.Addr), ∃ (x_23 : Nat), ∃ (x_24 : Nat), ∃
 (x_25 : Bool), v = Go.Value.tuple #[Go.Value.slice x_19 x_20 x_21, Go.Value.slice x_22 x_23 x_24, Go.Value.bool x_25] ∧ ∃ (I : Option Go.Addr → Nat → Nat → Int → Option Go.Addr → Nat → Nat → Bool →
 Go.World → Prop), ∃ (μ : Option Go.Addr → Nat → Nat → Int → Option Go.Addr → Nat → Nat → Bool → Go.World → Nat), I x x_8 x_9 x_10 x_19 x_20 x_21 x_25 w' ∧ ∀ (x : Option Go.Addr) (x_26 x_27 : Nat) (x_28
 : Int) (x_29 : Option Go.Addr) (x_30 x_31 : Nat) (x_32 : Bool) (w : Go.World), I x x_26 x_27 x_28 x_29 x_30 x_31 x_32 w → bif x_32 then Go.Sx.CallsV Go.Proofs.Try.prog (26 : Nat) #[Go.Value.slice x_29
 x_30 x_31, Go.Value.slice x x_26 x_27] w fun (v : Go.Value) (w' : Go.World) => ∃ (x_33 : Bool), v = Go.Value.bool x_33 ∧ bif !x_33 then K (Go.Value.bool Bool.false) w' else Go.Sx.CallsV
 Go.Proofs.Try.prog (33 : Nat) #[Go.Value.pointer a, Go.Value.int Go.IntKind.i64 (1 : Int), Go.Value.slice x_29 x_30 x_31, Go.Value.bool Bool.false] w' fun (v : Go.Value) (w' : Go.World) => ∃ (x_34 :
 Option Go.Addr), ∃ (x_35 : Nat), ∃ (x_36 : Nat), ∃ (x_37 : Option Go.Addr), ∃ (x_38 : Nat), ∃ (x_39 : Nat), ∃ (x_40 : Bool), v = Go.Value.tuple #[Go.Value.slice x_34 x_35 x_36, Go.Value.slice x_37 x_38
 x_39, Go.Value.bool x_40] ∧ Go.Sx.CallsV Go.Proofs.Try.prog (33 : Nat) #[Go.Value.pointer a, Go.Value.int Go.IntKind.i64 (1 : Int), Go.Value.slice x_29 x_30 x_31, Go.Value.bool Bool.false] w' fun (v :
 Go.Value) (w' : Go.World) => ∃ (x_41 : Option Go.Addr), ∃ (x_42 : Nat), ∃ (x_43 : Nat), ∃ (x_44 : Option Go.Addr), ∃ (x_45 : Nat), ∃ (x_46 : Nat), ∃ (x_47 : Bool), v = Go.Value.tuple #[Go.Value.slice
 x_41 x_42 x_43, Go.Value.slice x_44 x_45 x_46, Go.Value.bool x_47] ∧ I x_34 x_35 x_36 (Go.IntKind.wrap Go.IntKind.i64 (x_28 - (1 : Int))) x_41 x_42 x_43 x_47 w' ∧ μ x_34 x_35 x_36 (Go.IntKind.wrap
 Go.IntKind.i64 (x_28 - (1 : Int))) x_41 x_42 x_43 x_47 w' < μ x x_26 x_27 x_28 x_29 x_30 x_31 x_32 w else K (Go.Value.bool (Decidable.decide (x_28 = (0 : Int)))) w
theorem cardindexlaw04_walks.eq (a : Option Addr) (there : Option Nat) (w : World) (K : Value → World → Prop) : cardindexlaw04_walks.W a there w K = fnW Try.prog Try.f20 (.named (.seq .auto (.seq .auto (.seq .auto (.seq .auto (.seq .auto (.seq (.block (.loop [(5, .one .slc), (6, .one (.int .i64)), (7, .one .slc), (8, .one .slc), (9, .one .bool)] (.seq .auto (.seq (.block (.join [] .auto .auto)) .auto)))) (.seq .auto (.seq .auto (.seq (.block (.loop [(5, .one .slc), (6, .one (.int .i64)), (7, .one .slc), (9, .one .bool)] .auto)) .auto)))))))))) [.pointer a, .map there] w K := by kernel_rfl
theorem cardindexlaw04_walks.calls (ok : Okay Try.prog) {a : Option Addr} {there : Option Nat} {w : World} {K : Value → World → Prop} (h : cardindexlaw04_walks.W a there w K) : CallsV Try.prog 20 #[.pointer a, .map there] w K :=
  fnW_calls ok Try.func20 (an := (.named (.seq .auto (.seq .auto (.seq .auto (.seq .auto (.seq .auto (.seq (.block (.loop [(5, .one .slc), (6, .one (.int .i64)), (7, .one .slc), (8, .one .slc), (9, .one .bool)] (.seq .auto (.seq (.block (.join [] .auto .auto)) .auto)))) (.seq .auto (.seq .auto (.seq (.block (.loop [(5, .one .slc), (6, .one (.int .i64)), (7, .one .slc), (9, .one .bool)] .auto)) .auto))))))))))) (args := [.pointer a, .map there]) (by rw [← cardindexlaw04_walks.eq]; exact h)
noncomputable def cardindexlaw04_grown.W : Int → Option Addr → Nat → Nat → World → (Value → World → Prop) → Prop := fun (fan : Int) (l_A : Option Go.Addr) (l_n l_c : Nat) (w : Go.World) (K : Go.Value →
 Go.World → Prop) => Go.Sx.CallsV Go.Proofs.Try.prog (12 : Nat) #[Go.Value.int Go.IntKind.i64 fan, Go.Value.int Go.IntKind.i64 (61 : Int)] w fun (v : Go.Value) (w' : Go.World) => ∃ (x : Int), v =
 Go.Value.int Go.IntKind.i64 x ∧ Go.Sx.CallsV Go.Proofs.Try.prog (13 : Nat) #[Go.Value.int Go.IntKind.i64 (Go.IntKind.wrap Go.IntKind.i64 ((4 : Int) + x)), Go.Value.int Go.IntKind.i64 (65536 : Int)] w'
 fun (v : Go.Value) (w' : Go.World) => ∃ (x : Option Go.Addr), ∃ (x_1 : Int), v = Go.Value.tuple #[Go.Value.pointer x, Go.Value.int Go.IntKind.i64 x_1] ∧ Go.Sx.CallsV Go.Proofs.Try.prog (14 : Nat)
 #[Go.Value.pointer x] w' fun (v : Go.Value) (w' : Go.World) => ∃ (x_2 : Int), ∃ (x_3 : Int), v = Go.Value.tuple #[Go.Value.int Go.IntKind.i64 x_2, Go.Value.int Go.IntKind.i64 x_3] ∧ ∃ (x_4 : Option
 Nat), ∃ (w'_1 : Go.World), Go.Sx.RunsTo Go.Proofs.Try.prog (Go.Instr.makeMap (30 : Nat) Option.none) w' (Go.Value.map x_4) w'_1 ∧ bif !Decidable.decide (x_1 = (0 : Int)) then K (Go.Value.tuple
 #[Go.Value.pointer x, Go.Value.map x_4, Go.Value.bool Bool.false]) w'_1 else bif !Decidable.decide (x_3 = (0 : Int)) then K (Go.Value.tuple #[Go.Value.pointer x, Go.Value.map x_4, Go.Value.bool
 Bool.false]) w'_1 else bif !Decidable.decide (x_2 = (1 : Int)) then K (Go.Value.tuple #[Go.Value.pointer x, Go.Value.map x_4, Go.Value.bool Bool.false]) w'_1 else ∃ (I : Int → Go.World → Prop), ∃ (μ :
 Int → Go.World → Nat), I (0 : Int) w'_1 ∧ ∀ (x_5 : Int) (w : Go.World), I x_5 w → bif Decidable.decide (x_5 < (↑l_n : Int)) then bif Decidable.decide (x_5 < (300 : Int)) then ∃ (ad : Go.Addr), l_A =
 Option.some ad ∧ ((0 : Int) ≤ x_5 ∧ x_5 < (↑l_n : Int)) ∧ ∃ (x_6 : Int), Go.World.cell? w (Go.Addr.add ad (Int.toNat x_5 * (1 : Nat))) = Option.some (Go.Value.int Go.IntKind.i64 x_6) ∧ Go.Sx.CallsV
 Go.Proofs.Try.prog (12 : Nat) #[Go.Value.int Go.IntKind.i64 x_6, Go.Value.int Go.IntKind.i64 (1000 : Int)] w fun (v : Go.Value) (w' : Go.World) => ∃ (x_7 : Int), v = Go.Value.int Go.IntKind.i64 x_7 ∧
 Go.Sx.CallsV Go.Proofs.Try.prog (18 : Nat) #[Go.Value.int Go.IntKind.i64 x_7] w' fun (v : Go.Value) (w' : Go.World) => ∃ (x_8 : Option Go.Addr), ∃ (x_9 : Nat), ∃ (x_10 : Nat), v = Go.Value.slice x_8
 x_9 x_10 ∧ Go.Sx.CallsV Go.Proofs.Try.prog (18 : Nat) #[Go.Value.int Go.IntKind.i64 x_5] w' fun (v : Go.Value) (w' : Go.World) => ∃ (x_11 : Option Go.Addr), ∃ (x_12 : Nat), ∃ (x_13 : Nat), v =
 Go.Value.slice x_11 x_12 x_13 ∧ Go.Sx.CallsV Go.Proofs.Try.prog (17 : Nat) #[Go.Value.pointer x, Go.Value.int Go.IntKind.i64 (1 : Int), Go.Value.slice x_8 x_9 x_10, Go.Value.slice x_11 x_12 x_13] w'
 fun (v : Go.Value) (w' : Go.World) => ∃ (x_14 : Bool), ∃ (x_15 : Int), v = Go.Value.tuple #[Go.Value.bool x_14, Go.Value.int Go.IntKind.i64 x_15] ∧ ∃ (x_16 : Int), ∃ (x_17 : Bool), ∃ (w'_2 : Go.World),
 Go.Sx.RunsTo Go.Proofs.Try.prog (Go.Instr.lookup (30 : Nat) (Go.Value.map x_4) (Go.Value.int Go.IntKind.i64 x_7) Bool.true) w' (Go.Value.tuple #[Go.Value.int Go.IntKind.i64 x_16, Go.Value.bool x_17])
 w'_2 ∧ bif !Decidable.decide (x_15 = (0 : Int)) then K (Go.Value.tuple #[Go.Value.pointer x, Go.Value.map x_4, Go.Value.bool Bool.false]) w'_2 else bif !Decidable.decide (x_14 = x_17) then K
 (Go.Value.tuple #[Go.Value.pointer x, Go.Value.map x_4, Go.Value.bool Bool.false]) w'_2 else ∃ (w' : Go.World), Go.Sx.RunsTo Go.Proofs.Try.prog (Go.Instr.mapUpdate (30 : Nat) (Go.Value.map x_4)
 (Go.Value.int Go.IntKind.i64 x_7) (Go.Value.int Go.IntKind.i64 x_5)) w'_2 () w' ∧ I (Go.IntKind.wrap Go.IntKind.i64 (x_5 + (1 : Int))) w' ∧ μ (Go.IntKind.wrap Go.IntKind.i64 (x_5 + (1 : Int))) w' < μ
 x_5 w else K (Go.Value.tuple #[Go.Value.pointer x, Go.Value.map x_4, Go.Value.bool Bool.true]) w else K (Go.Value.tuple #[Go.Value.pointer x, Go.Value.map x_4, Go.Value.bool Bool.true]) w
theorem cardindexlaw04_grown.eq (fan : Int) (l_A : Option Addr) (l_n : Nat) (l_c : Nat) (w : World) (K : Value → World → Prop) : cardindexlaw04_grown.W fan l_A l_n l_c w K = fnW Try.prog Try.f27 (.named (.seq .auto (.seq .auto (.seq .auto (.seq .auto (.seq .auto (.seq (.seq .auto (.block (.loop [(12, .one (.int .i64))] .auto))) .auto))))))) [.int .i64 fan, .slice l_A l_n l_c] w K := by kernel_rfl
theorem cardindexlaw04_grown.calls (ok : Okay Try.prog) {fan : Int} {l_A : Option Addr} {l_n : Nat} {l_c : Nat} {w : World} {K : Value → World → Prop} (h : cardindexlaw04_grown.W fan l_A l_n l_c w K) : CallsV Try.prog 27 #[.int .i64 fan, .slice l_A l_n l_c] w K :=
  fnW_calls ok Try.func27 (an := (.named (.seq .auto (.seq .auto (.seq .auto (.seq .auto (.seq .auto (.seq (.seq .auto (.block (.loop [(12, .one (.int .i64))] .auto))) .auto)))))))) (args := [.int .i64 fan, .slice l_A l_n l_c]) (by rw [← cardindexlaw04_grown.eq]; exact h)
end Go.Proofs.Ytadlhdiejmilmaa
/- Layer 4: an arena of one tree; the statements' own helpers. -/
set_option linter.unusedVariables false
set_option linter.unusedSimpArgs false
namespace Go.Proofs.Ytadlhdiejmilmaa
open Go Go.Sx T4
/-- one tree, of the number 1, H deep -/
def Sole (A : Ar) (H : Nat) (es : Es) : Prop := A.last = 1 ∧ ∃ i ps, Inv A [⟨1, i, H, es, ps⟩]
theorem Sole.f1 {A : Ar} {H : Nat} {es : Es} (h : Sole A H es) : 4 ≤ A.fan := by obtain ⟨_, i, ps, h⟩ := h; exact h.f1
theorem Sole.at_ {A : Ar} {H : Nat} {es : Es} (h : Sole A H es) : ∃ i ps Q, getT A.trees 1 = some i ∧ TreeAt A H i es ps Q ∧ A.most ≤ 65536 ∧ A.nodes ≤ A.most ∧ A.nodes = ps.length := by
  obtain ⟨_, i, ps, h⟩ := h
  have h1 := h.get (d := ⟨1, i, H, es, ps⟩) (by simp)
  have h2 := Inv.at_ (D1 := []) (D2 := []) h
  exact ⟨i, ps, _, h1, h2, h.m, h.nodes, by rw [h2.acc.nodes]; simp⟩
theorem Sole.up {A : Ar} {H : Nat} {es : Es} (h : Sole A H es) : A.nodes + 0 ≤ 1 + es.length ∧ 1 ≤ H ∧ H ≤ A.nodes ∧ (1 < H → 2 * (A.fan / 2) ^ (H - 1) ≤ es.length) := by
  obtain ⟨i, ps, Q, h1, h2, h3, h4, h5⟩ := h.at_
  have a := h2.tree.places h2.f1
  have b := h2.tree.height
  exact ⟨by omega, b.1, by omega, fun hH => h2.tree.least hH⟩
theorem sole_new {fan most : Nat} (h1 : 4 ≤ fan) (h2 : fan ≤ 64) (h3 : 1 ≤ most) (h4 : most ≤ 65536) : Inv (A0 fan most) [] ∧ Sole (mkT (A0 fan most)) 1 [] := by
  have h : Inv (A0 fan most) [] := ⟨rfl, fun _ h => (by cases h), fun x => (by simp [A0]), List.nodup_nil, fun _ h => (by cases h), h1, h2, h4, by simp [Ar.nodes, A0], by simp [A0], by simp⟩
  obtain ⟨i, hi⟩ := h.made (by simp [Ar.nodes, A0]; omega) (by simp)
  exact ⟨h, rfl, i, [i], hi⟩
/-- an entry is put -/
theorem sPut {R M : Nat → Prop} {w : World} {g : Nat} {A : Ar} (h : Ar1 R M w g A) {H : Nat} {es : Es} (S : Sole A H es) {key val : Key} {Ω1 Ω2 : Nat → Prop} {KA VA : Option Addr} (hKA : Imm KB Ω1 w KA key) (hVA : Imm KB Ω2 w VA val) (kc vc : Nat) (hkl : key.length ≤ 1048576) (hvl : val.length ≤ 1048576) :
    CallsV Try.prog 17 #[.pointer (some ⟨g, 0, none⟩), .int .i64 1, .slice KA key.length kc, .slice VA val.length vc] w fun r w' => ∃ A' R' M' full, Ar1 R' M' w' g A' ∧ Chg R M w R' M' w' ∧ A'.fan = A.fan ∧ A'.most = A.most ∧ r = .tuple #[.bool (!full && inE key es), .int .i64 (if full then 5 else 0)] ∧
      (full = true → A' = A ∧ inE key es = false ∧ A.most < A.nodes + H + 1) ∧ (full = false → ∃ H', Sole A' H' (insE key val es)) := by
  obtain ⟨i, ps, Q, h1, h2, h3, h4, h5⟩ := S.at_
  refine (Put_spec h h1 h2 h3 hKA hVA kc vc hkl hvl).mono ?_
  rintro r w' ⟨R', M', h6, h7, rfl⟩
  refine ⟨_, R', M', putFull H A i key es, h6, h7, ?_, ?_, rfl, fun hf => ?_, fun hf => ?_⟩
  · split
    · rfl
    · exact (putTop_ok h2.tree h2.acc h2.f1 key val).choose_spec.choose_spec.1.fan
  · split
    · rfl
    · exact (putTop_ok h2.tree h2.acc h2.f1 key val).choose_spec.choose_spec.1.most
  · rw [if_pos hf]
    unfold putFull at hf
    simp only [Bool.and_eq_true, Bool.not_eq_true', decide_eq_true_eq] at hf
    have hw : wantsF A.fan (sizes H A i key) ≤ H + 1 := by
      have hl := sizes_len H h2.tree (Bnd.all key)
      unfold wantsF
      split
      · omega
      · rename_i hne
        have := trail_le A.fan (sizes H A i key)
        omega
    exact ⟨rfl, hf.1, by omega⟩
  · rw [if_neg (by rw [hf]; simp)]
    obtain ⟨hl, i', ps', hI⟩ := S
    have e1 := hI.get (d := ⟨1, i', H, es, ps'⟩) (by simp)
    have : i' = i := by have := e1.symm.trans h1; simpa using this
    subst this
    obtain ⟨h', ps2, h8, _⟩ := Inv.put (D1 := []) (D2 := []) hI key val hf
    refine ⟨h', ?_, i', ps2, h8⟩
    rw [(putTop_ok h2.tree h2.acc h2.f1 key val).choose_spec.choose_spec.1.last]; exact hl
theorem sDeep {R M : Nat → Prop} {w : World} {g : Nat} {A : Ar} (h : Ar1 R M w g A) {H : Nat} {es : Es} (S : Sole A H es) : CallsV Try.prog 16 #[.pointer (some ⟨g, 0, none⟩), .int .i64 1] w fun r w' => r = iv H ∧ Ext w w' := by
  obtain ⟨i, ps, Q, h1, h2, _⟩ := S.at_
  exact Deep_spec h h1 h2
theorem sNodes {R M : Nat → Prop} {w : World} {g : Nat} {A : Ar} (h : Ar1 R M w g A) {H : Nat} {es : Es} (S : Sole A H es) : CallsV Try.prog 15 #[.pointer (some ⟨g, 0, none⟩)] w fun r w' => r = iv A.nodes ∧ w' = w.drew := by
  obtain ⟨i, ps, Q, h1, h2, _⟩ := S.at_
  exact Nodes_spec h (Acc.free h2.acc).2 (by have := h2.len; omega)
theorem sLen {R M : Nat → Prop} {w : World} {g : Nat} {A : Ar} (h : Ar1 R M w g A) {H : Nat} {es : Es} (S : Sole A H es) : CallsV Try.prog 28 #[.pointer (some ⟨g, 0, none⟩), .int .i64 1] w fun r w' => r = iv es.length ∧ Ext w w' := by
  obtain ⟨i, ps, Q, h1, h2, _⟩ := S.at_
  exact Len_spec h h1 h2
theorem sCheck {R M : Nat → Prop} {w : World} {g : Nat} {A : Ar} (h : Ar1 R M w g A) {H : Nat} {es : Es} (S : Sole A H es) : CallsV Try.prog 19 #[.pointer (some ⟨g, 0, none⟩)] w fun r w' => r = .int .i64 0 ∧ Ext w w' := by
  obtain ⟨_, i, ps, hI⟩ := S
  exact Check_spec h hI.whole
theorem sGet {R M : Nat → Prop} {w : World} {g : Nat} {A : Ar} (h : Ar1 R M w g A) {H : Nat} {es : Es} (S : Sole A H es) {key : Key} {Ω : Nat → Prop} {KA : Option Addr} (hKA : Imm KB Ω w KA key) (kc : Nat) :
    CallsV Try.prog 23 #[.pointer (some ⟨g, 0, none⟩), .int .i64 1, .slice KA key.length kc] w fun r w' => Ext w w' ∧ (match getE key es with | none => r = .tuple #[.slice none 0 0, .bool false] | some v => ∃ B d, r = .tuple #[.slice B v.length d, .bool true] ∧ OwnB w' B d v ∧ New w B ∧ v.length ≤ 1048576) := by
  obtain ⟨i, ps, Q, h1, h2, _⟩ := S.at_
  exact Get_spec h h1 h2 hKA kc
theorem sAfter {R M : Nat → Prop} {w : World} {g : Nat} {A : Ar} (h : Ar1 R M w g A) {H : Nat} {es : Es} (S : Sole A H es) {key : Key} {Ω : Nat → Prop} {KA : Option Addr} (hKA : Imm KB Ω w KA key) (kc : Nat) (at_ : Bool) :
    CallsV Try.prog 24 #[.pointer (some ⟨g, 0, none⟩), .int .i64 1, .slice KA key.length kc, .bool at_] w fun r w' => Told w (aftE key at_ es) r w' ∧ Ext w w' := by
  obtain ⟨i, ps, Q, h1, h2, _⟩ := S.at_
  exact After_spec h h1 h2 hKA kc at_
theorem sBefore {R M : Nat → Prop} {w : World} {g : Nat} {A : Ar} (h : Ar1 R M w g A) {H : Nat} {es : Es} (S : Sole A H es) {key : Key} {Ω : Nat → Prop} {KA : Option Addr} (hKA : Imm KB Ω w KA key) (kc : Nat) (at_ : Bool) :
    CallsV Try.prog 33 #[.pointer (some ⟨g, 0, none⟩), .int .i64 1, .slice KA key.length kc, .bool at_] w fun r w' => Told w (befE key at_ es) r w' ∧ Ext w w' := by
  obtain ⟨i, ps, Q, h1, h2, _⟩ := S.at_
  exact Before_spec h h1 h2 hKA kc at_
theorem sLast {R M : Nat → Prop} {w : World} {g : Nat} {A : Ar} (h : Ar1 R M w g A) {H : Nat} {es : Es} (S : Sole A H es) :
    CallsV Try.prog 25 #[.pointer (some ⟨g, 0, none⟩), .int .i64 1] w fun r w' => Told w es.getLast? r w' ∧ Ext w w' := by
  obtain ⟨i, ps, Q, h1, h2, _⟩ := S.at_
  exact Last_spec h h1 h2
/-- an arena, and its first tree -/
theorem sNew (w : World) (fan most : Nat) (h1 : 4 ≤ fan) (h2 : fan ≤ 64) (h3 : 1 ≤ most) (h4 : most ≤ 65536) :
    CallsV Try.prog 13 #[iv fan, iv most] w fun r w' => ∃ g R M, r = .tuple #[.pointer (some ⟨g, 0, none⟩), .int .i64 0] ∧ Ar1 R M w' g (A0 fan most) ∧ Ext w w' ∧ (∀ k, R k → w.heap.size ≤ k) ∧
      CallsV Try.prog 14 #[.pointer (some ⟨g, 0, none⟩)] w' fun r' w'' => r' = .tuple #[.int .i64 1, .int .i64 0] ∧ ∃ R' M', Ar1 R' M' w'' g (mkT (A0 fan most)) ∧ Ext w w'' ∧ ∀ k, R' k → w.heap.size ≤ k := by
  refine (New_spec w fan most h1 h2 h3 h4).mono ?_
  rintro r w' ⟨g, R, M, rfl, h, e, hR⟩
  refine ⟨g, R, M, rfl, h, e, hR, (Create_spec h (by simp [A0]; omega) (by simp [A0]) (fun x hx => by simp [A0] at hx) (by simp [A0]) (by simp [A0]) rfl (by simp [A0])).mono ?_⟩
  intro r' w'' hr
  rw [if_neg (by simp [A0, Ar.nodes]; omega)] at hr
  obtain ⟨rfl, R', M', h', c⟩ := hr
  obtain ⟨_, _, _, _, _, ha⟩ := h
  refine ⟨rfl, R', M', h', ⟨c.fr.os.trans e.os, c.fr.tape.trans e.tape, c.fr.output.trans e.output, Nat.le_trans e.size c.fr.size, fun k hk _ => (c.fr.block k (Nat.lt_of_lt_of_le hk e.size) fun hm => ?_).trans (e.block k hk fun h => h)⟩, fun k hk => ?_⟩
  · have := hR k (ha.mr k hm); omega
  · rcases c.r' k hk with hk | hk
    · exact hR k hk
    · exact Nat.le_trans e.size hk
/-! ## the helpers -/
theorem b_spec (w : World) (l : List UInt8) (hl : l.length ≤ 1048576) : CallsV Try.prog 54 #[.string ⟨l.toArray⟩] w fun r w' => ∃ A c, r = .slice A l.length c ∧ OwnB w' A c l ∧ Ext w w' ∧ New w A := by
  refine cardindexlaw04_b.calls okay ?_
  unfold cardindexlaw04_b.W
  obtain ⟨A, c, w', h1, h2, h3, h4, _⟩ := to_bytes bt w ⟨l.toArray⟩ (by show l.toArray.size ≤ maxLen; simp [maxLen]; omega)
  have e : sb ⟨l.toArray⟩ = l := rfl
  rw [e] at h1 h2
  exact ⟨_, _, _, _, h1, A, c, rfl, h2, h3, h4⟩
theorem tells_spec {Ω Ω' : Nat → Prop} {w : World} {A B : Option Addr} {c d : Nat} {k v : List UInt8} (hk : Imm KB Ω w A k) (hv : Imm KB Ω' w B v) (ok : Bool) (kl vl : List UInt8) :
    CallsV Try.prog 55 #[.slice A k.length c, .slice B v.length d, .bool ok, .string ⟨kl.toArray⟩, .string ⟨vl.toArray⟩] w fun r w' => r = .bool (decide (ok = !decide (kl = [])) && decide (k = kl) && decide (v = vl)) ∧ w' = w := by
  refine cardindexlaw04_tells.calls okay ?_
  unfold cardindexlaw04_tells.W
  have e0 : (ByteArray.toList ⟨kl.toArray⟩ == ByteArray.toList (ByteArray.mk #[])) = decide (kl = []) := eq_str kl []
  rw [e0]
  refine brd (fun h1 => ⟨_, _, to_str bt hk c, ?_⟩) (fun h1 => ⟨by rw [decide_eq_false h1]; rfl, rfl⟩)
  rw [decide_eq_true h1, Bool.true_and]
  exact brS (fun h2 => ⟨_, _, to_str bt hv d, by rw [decide_eq_true h2, Bool.true_and, eq_str], rfl⟩) (fun h2 => ⟨by rw [decide_eq_false h2]; rfl, rfl⟩)
/-- a number's key -/
def keyN (n : Nat) : Key := [UInt8.ofNat (n / 256), UInt8.ofNat n]
end Go.Proofs.Ytadlhdiejmilmaa
/- Layer 4: the chapter's examples. -/
set_option linter.unusedVariables false
set_option linter.unusedSimpArgs false
namespace Go.Proofs.Ytadlhdiejmilmaa
open Go Go.Sx T4
theorem room {A : Ar} {H : Nat} {es : Es} (S : Sole A H es) (hf : A.fan = 4) (hm : A.most = 10) (hl : es.length ≤ 4) : A.nodes + H + 1 ≤ A.most := by
  obtain ⟨h1, h2, h3, h4⟩ := S.up
  rw [hf] at h4
  have : H ≤ 2 := by
    refine Nat.le_of_not_lt fun h => ?_
    have h5 := h4 (by omega)
    have h6 : 2 ^ 2 ≤ 2 ^ (H - 1) := Nat.pow_le_pow_right (by decide) (by omega)
    have : (4 / 2) ^ (H - 1) = 2 ^ (H - 1) := rfl
    omega
  omega
theorem five {A : Ar} {H : Nat} {es : Es} (S : Sole A H es) (hf : A.fan = 4) (hl : es.length = 5) : H = 2 ∧ A.nodes = 3 := by
  obtain ⟨i, ps, Q, _, T, _, _, hn⟩ := S.at_
  obtain ⟨_, h2, _, h4⟩ := S.up
  rw [hf] at h4
  have h5 : H ≤ 2 := by
    refine Nat.le_of_not_lt fun h => ?_
    have h5 := h4 (by omega)
    have h6 : 2 ^ 2 ≤ 2 ^ (H - 1) := Nat.pow_le_pow_right (by decide) (by omega)
    have : (4 / 2) ^ (H - 1) = 2 ^ (H - 1) := rfl
    omega
  have ht := T.tree
  rw [hf] at ht
  have h1 : H = 1 ∨ H = 2 := by omega
  rcases h1 with rfl | rfl
  · obtain ⟨n, hn, hs, hc⟩ := ht
    rcases hc with ⟨_, _, hk, hke, _⟩ | ⟨h0, _⟩
    · have : n.size = es.length := by simp [Nod.size, hk, hke, keysE_length]
      omega
    · exact absurd h0 (by decide)
  · refine ⟨rfl, ?_⟩
    obtain ⟨n, _, hs, hc⟩ := ht
    rcases hc with ⟨h0, _⟩ | ⟨_, hm, _, ps', rfl, hk⟩
    · cases h0
    · have key : ∀ {lo hi : Option Key} {ks : List Key} {is : List Nat} {es : Es} {ps : List Nat}, T4.Kids (Tree A.nd 4 1 (2, 2)) lo hi ks is es ps → ps.length = is.length ∧ 2 * is.length ≤ es.length := by
        have one : ∀ {j : Nat} {lo hi : Option Key} {es : Es} {ps : List Nat}, Tree A.nd 4 1 (2, 2) j lo hi es ps → ps.length = 1 ∧ 2 ≤ es.length := by
          rintro j lo hi es ps ⟨m, _, _, hc⟩
          rcases hc with ⟨_, h1, h2, h3, _, _, _, rfl⟩ | ⟨h0, _⟩
          · have : m.size = es.length := by simp [Nod.size, h2, h3, keysE_length]
            have h1 : 2 ≤ m.size := h1
            exact ⟨rfl, by omega⟩
          · exact absurd h0 (by decide)
        intro lo hi ks is es ps hk
        induction hk with
        | one h => have := one h; simp; omega
        | cons h _ _ ih => have := one h; simp only [List.length_append, List.length_cons]; omega
      obtain ⟨k1, k2⟩ := key hk
      have hkl := hk.len
      have hm : 2 ≤ n.size := hm
      have hks : n.kids ≠ [] := fun e => by rw [e] at hkl; simp at hkl
      rw [Nod.size, if_neg hks] at hm
      rw [hn, List.length_cons]
      omega
theorem aPut {w0 : World} {R M : Nat → Prop} {w : World} {g : Nat} {A : Ar} (h : Hs w0 R M w g A) {H : Nat} {es : Es} (S : Sole A H es) (hf : A.fan = 4) (hm : A.most = 10) (hl : es.length ≤ 4) {key val : Key} {Ω1 Ω2 : Nat → Prop} {KA VA : Option Addr} (hKA : Imm KB Ω1 w KA key) (hVA : Imm KB Ω2 w VA val) (kc vc : Nat) (hkl : key.length ≤ 1048576) (hvl : val.length ≤ 1048576) :
    CallsV Try.prog 17 #[.pointer (some ⟨g, 0, none⟩), .int .i64 1, .slice KA key.length kc, .slice VA val.length vc] w fun r w' => r = .tuple #[.bool (inE key es), .int .i64 0] ∧ ∃ A' R' M' H', Hs w0 R' M' w' g A' ∧ Chg R M w R' M' w' ∧ A'.fan = 4 ∧ A'.most = 10 ∧ Sole A' H' (insE key val es) := by
  refine (sPut h.ar S hKA hVA kc vc hkl hvl).mono ?_
  rintro _ w' ⟨A', R', M', full, h', c, e1, e2, rfl, hful, hnot⟩
  have : full = false := by
    cases full with
    | false => rfl
    | true => have := (hful rfl).2.2; have := room S hf hm hl; omega
  subst this
  obtain ⟨H', S'⟩ := hnot rfl
  exact ⟨by simp, A', R', M', H', h.chg h' c, c, e1.trans hf, e2.trans hm, S'⟩
def letK : Nat → Key
  | 0 => [99]
  | 1 => [100]
  | _ => [101]
def esj : Nat → Es
  | 0 => [([97], [51]), ([98], [50])]
  | j + 1 => insE (letK j) [] (esj j)
theorem awake_spec (w : World) : CallsV Try.prog 21 #[] w fun r w' => r = .bool true ∧ Ext w w' := by
  refine cardindexlaw04_awake.calls okay ?_
  unfold cardindexlaw04_awake.W
  refine (sNew w 4 10 (by decide) (by decide) (by decide) (by decide)).mono ?_
  rintro _ w1 ⟨g, R, M, rfl, _, _, _, hcr⟩
  refine ⟨_, _, rfl, hcr.mono ?_⟩
  rintro _ w2 ⟨rfl, R2, M2, h2, e2, hR2⟩
  have H2 : Hs w R2 M2 w2 g (mkT (A0 4 10)) := ⟨h2, e2, hR2⟩
  have S2 := (sole_new (fan := 4) (most := 10) (by decide) (by decide) (by decide) (by decide)).2
  refine ⟨_, _, rfl, brn (fun h => absurd rfl h) fun _ => brn (fun h => absurd rfl h) fun _ => brn (fun h => absurd rfl h) fun _ => ?_⟩
  -- b, a, a
  refine (b_spec w2 [98] (by decide)).mono ?_
  rintro _ w3 ⟨kA3, kc3, rfl, o3, e3, _⟩
  refine ⟨_, _, _, rfl, (b_spec w3 [50] (by decide)).mono ?_⟩
  rintro _ w4 ⟨kA4, kc4, rfl, o4, e4, _⟩
  refine ⟨_, _, _, rfl, (aPut ((H2.ext e3).ext e4) S2 rfl rfl (by decide) (o3.ext e4).imm0 o4.imm0 kc3 kc4 (by decide) (by decide)).mono ?_⟩
  rintro _ w5 ⟨rfl, A5, R5, M5, D5, H5, _, f5, m5, S5⟩
  refine ⟨_, _, rfl, ?_⟩
  refine (b_spec w5 [97] (by decide)).mono ?_
  rintro _ w6 ⟨kA6, kc6, rfl, o6, e6, _⟩
  refine ⟨_, _, _, rfl, (b_spec w6 [49] (by decide)).mono ?_⟩
  rintro _ w7 ⟨kA7, kc7, rfl, o7, e7, _⟩
  refine ⟨_, _, _, rfl, (aPut ((H5.ext e6).ext e7) S5 f5 m5 (by decide) (o6.ext e7).imm0 o7.imm0 kc6 kc7 (by decide) (by decide)).mono ?_⟩
  rintro _ w8 ⟨rfl, A8, R8, M8, D8, H8, _, f8, m8, S8⟩
  refine ⟨_, _, rfl, ?_⟩
  refine (b_spec w8 [97] (by decide)).mono ?_
  rintro _ w9 ⟨kA9, kc9, rfl, o9, e9, _⟩
  refine ⟨_, _, _, rfl, (b_spec w9 [51] (by decide)).mono ?_⟩
  rintro _ w10 ⟨kA10, kc10, rfl, o10, e10, _⟩
  refine ⟨_, _, _, rfl, (aPut ((H8.ext e9).ext e10) S8 f8 m8 (by decide) (o9.ext e10).imm0 o10.imm0 kc9 kc10 (by decide) (by decide)).mono ?_⟩
  rintro _ w11 ⟨rfl, A11, R11, M11, D11, H11, _, f11, m11, S11⟩
  have es11 : insE [97] [51] (insE [97] [49] (insE [98] [50] ([] : Es))) = esj 0 := by decide
  rw [es11] at S11
  refine ⟨_, _, rfl, brn (fun h => absurd (by decide) h) fun _ => br (fun h => absurd h (by decide)) fun _ => br (fun h => absurd h (by decide)) fun _ => brnb (fun h => absurd h (by decide)) fun _ => ?_⟩
  -- what comes behind, ahead
  refine (b_spec w11 [97] (by decide)).mono ?_
  rintro _ w12 ⟨kA12, kc12, rfl, o12, e12, _⟩
  refine ⟨_, _, _, rfl, (sAfter (H11.ext e12).ar S11 o12.imm0 kc12 false).mono ?_⟩
  rintro _ w13 ⟨ht, e13⟩
  rw [show aftE [97] false (esj 0) = some ([98], [50]) by decide] at ht
  obtain ⟨A1, c1, B1, d1, rfl, oA1, oB1, _⟩ := ht
  refine ⟨_, _, _, _, _, _, _, rfl, (b_spec w13 [97] (by decide)).mono ?_⟩
  rintro _ w14 ⟨kA14, kc14, rfl, o14, e14, _⟩
  have H14 := ((H11.ext e12).ext e13).ext e14
  refine ⟨_, _, _, rfl, (sAfter H14.ar S11 o14.imm0 kc14 true).mono ?_⟩
  rintro _ w15 ⟨ht, e15⟩
  rw [show aftE [97] true (esj 0) = some ([97], [51]) by decide] at ht
  obtain ⟨A2, c2, B2, d2, rfl, oA2, oB2, _⟩ := ht
  refine ⟨_, _, _, _, _, _, _, rfl, (b_spec w15 [97] (by decide)).mono ?_⟩
  rintro _ w16 ⟨kA16, kc16, rfl, o16, e16, _⟩
  have H16 := (H14.ext e15).ext e16
  refine ⟨_, _, _, rfl, (sBefore H16.ar S11 o16.imm0 kc16 false).mono ?_⟩
  rintro _ w17 ⟨ht, e17⟩
  rw [show befE [97] false (esj 0) = none by decide] at ht
  obtain rfl : _ = eN := ht
  have x1 := ((e14.trans' e15).trans' e16).trans' e17
  have x2 := e16.trans' e17
  refine ⟨_, _, _, _, _, _, _, rfl, (tells_spec (oA1.ext x1).imm0 (oB1.ext x1).imm0 true [98] [50]).same ⟨_, rfl, brnb (fun h => absurd h (by decide)) fun _ => ?_⟩⟩
  refine (tells_spec (oA2.ext x2).imm0 (oB2.ext x2).imm0 true [97] [51]).same ⟨_, rfl, brnb (fun h => absurd h (by decide)) fun _ => ?_⟩
  refine (tells_spec (k := []) (v := []) (Imm.nil KB NoB w17 none) (Imm.nil KB NoB w17 none) false [] []).same ⟨_, rfl, brnb (fun h => absurd h (by decide)) fun _ => ?_⟩
  have H17 := H16.ext e17
  -- c, d, e
  intro gs w18 f18
  have H18 := H17.ext f18.ext
  have hgs : ¬ R11 gs := fun h => by have := H17.ar.lt gs h; have := f18.ge; omega
  refine ⟨fun x u => ∃ j : Nat, j ≤ 3 ∧ x = (j : Int) ∧ ∃ A H R M, Hs w R M u g A ∧ A.fan = 4 ∧ A.most = 10 ∧ Sole A H (esj j) ∧ Blk u gs [.string ⟨#[99]⟩, .string ⟨#[100]⟩, .string ⟨#[101]⟩] ∧ ¬ R gs, fun x _ => (3 - x).toNat, ⟨0, by omega, rfl, _, _, _, _, H18, f11, m11, S11, f18.blk, hgs⟩, ?_⟩
  rintro _ u ⟨j, hj, rfl, A, H, R', M', HA, hf, hm, S, hb, hr⟩
  refine brd (fun hlt => ?_) (fun hge => ?_)
  · have hc : u.cell? ⟨gs, j, none⟩ = some (.string ⟨(letK j).toArray⟩) := by
      have : j = 0 ∨ j = 1 ∨ j = 2 := by omega
      rcases this with rfl | rfl | rfl <;> exact hb.cell0 rfl
    have hl4 : (esj j).length ≤ 4 := by
      have : j = 0 ∨ j = 1 ∨ j = 2 := by omega
      rcases this with rfl | rfl | rfl <;> decide
    have hkl : (letK j).length ≤ 1048576 := by
      have : j = 0 ∨ j = 1 ∨ j = 2 := by omega
      rcases this with rfl | rfl | rfl <;> decide
    refine ⟨_, rfl, ⟨by omega, by omega⟩, _, by rw [Int.toNat_natCast, add_new, Nat.zero_add, Nat.mul_one]; exact hc, (b_spec u (letK j) hkl).mono ?_⟩
    rintro _ u1 ⟨kA, kc, rfl, ok, e1, _⟩
    refine ⟨_, _, _, rfl, (aPut (HA.ext e1) S hf hm hl4 (val := []) ok.imm0 (Imm.nil KB NoB u1 none) kc 0 hkl (by decide)).mono ?_⟩
    rintro _ u2 ⟨rfl, A', R'', M'', H', HA', c, hf', hm', S'⟩
    obtain ⟨hb', hr'⟩ := Chg.blk (HA.ext e1).ar c (hb.ext e1) hr
    rw [wi _ (by omega) (by omega)]
    exact ⟨_, _, rfl, ⟨j + 1, by omega, by omega, A', H', R'', M'', HA', hf', hm', S', hb', hr'⟩, by dsimp only; omega⟩
  · obtain rfl : j = 3 := by omega
    have hl5 : (esj 3).length = 5 := by decide
    obtain ⟨rfl, hn⟩ := five S hf hl5
    refine (sLen HA.ar S).mono ?_
    rintro _ u1 ⟨rfl, e1⟩
    refine ⟨_, rfl, brd (fun _ => ?_) fun h => absurd (by rw [hl5]; rfl) h⟩
    refine (sDeep (HA.ext e1).ar S).mono ?_
    rintro _ u2 ⟨rfl, e2⟩
    refine ⟨_, rfl, brd (fun _ => ?_) fun h => absurd rfl h⟩
    refine (sNodes ((HA.ext e1).ext e2).ar S).mono ?_
    rintro _ u3 ⟨rfl, rfl⟩
    refine ⟨_, rfl, brd (fun _ => ?_) fun h => absurd (by rw [hn]; rfl) h⟩
    have HB := ((HA.ext e1).ext e2).ext (Fr.drew NoB u2)
    refine (sCheck HB.ar S).mono ?_
    rintro _ u4 ⟨rfl, e4⟩
    exact ⟨_, rfl, rfl, (HB.ext e4).e⟩
end Go.Proofs.Ytadlhdiejmilmaa
/- The preconditions of Go functions, printed by a program of this workplace (nests.py); each is proved to be the engine's own. -/
set_option linter.unusedVariables false
set_option maxRecDepth 100000
namespace Go.Proofs.Ytadlhdiejmilmaa
open Go Go.Sx
noncomputable def cardindexlaw04_full.W : World → (Value → World → Prop) → Prop := fun (w : Go.World) (K : Go.Value → Go.World → Prop) => Go.Sx.CallsV Go.Proofs.Try.prog (13 : Nat) #[Go.Value.int
 Go.IntKind.i64 (4 : Int), Go.Value.int Go.IntKind.i64 (1 : Int)] w fun (v : Go.Value) (w' : Go.World) => ∃ (x : Option Go.Addr), ∃ (x_1 : Int), v = Go.Value.tuple #[Go.Value.pointer x, Go.Value.int
 Go.IntKind.i64 x_1] ∧ Go.Sx.CallsV Go.Proofs.Try.prog (14 : Nat) #[Go.Value.pointer x] w' fun (v : Go.Value) (w' : Go.World) => ∃ (x_2 : Int), ∃ (x_3 : Int), v = Go.Value.tuple #[Go.Value.int
 Go.IntKind.i64 x_2, Go.Value.int Go.IntKind.i64 x_3] ∧ Go.Sx.CallsV Go.Proofs.Try.prog (14 : Nat) #[Go.Value.pointer x] w' fun (v : Go.Value) (w' : Go.World) => ∃ (x_4 : Int), ∃ (x_5 : Int), v =
 Go.Value.tuple #[Go.Value.int Go.IntKind.i64 x_4, Go.Value.int Go.IntKind.i64 x_5] ∧ bif !Decidable.decide (x_1 = (0 : Int)) then K (Go.Value.bool Bool.false) w' else bif !Decidable.decide (x_3 = (0 :
 Int)) then K (Go.Value.bool Bool.false) w' else bif !Decidable.decide (x_5 = (5 : Int)) then K (Go.Value.bool Bool.false) w' else ∀ (g : Nat) (w'_1 : Go.World), Go.Sx.Fresh w' g w'_1 [Go.Value.string
 (ByteArray.mk #[(97 : UInt8)]), Go.Value.string (ByteArray.mk #[(98 : UInt8)]), Go.Value.string (ByteArray.mk #[(99 : UInt8)]), Go.Value.string (ByteArray.mk #[(100 : UInt8)])] (9 : Nat) → ∃ (I : Int →
 Go.World → Prop), ∃ (μ : Int → Go.World → Nat), I (0 : Int) w'_1 ∧ ∀ (x_6 : Int) (w : Go.World), I x_6 w → bif Decidable.decide (x_6 < (↑(4 : Nat) : Int)) then ∃ (ad : Go.Addr), Option.some (Go.Addr.mk
 g (0 : Nat) Option.none) = Option.some ad ∧ ((0 : Int) ≤ x_6 ∧ x_6 < (↑(4 : Nat) : Int)) ∧ ∃ (x_7 : ByteArray), Go.World.cell? w (Go.Addr.add ad (Int.toNat x_6 * (1 : Nat))) = Option.some
 (Go.Value.string x_7) ∧ Go.Sx.CallsV Go.Proofs.Try.prog (54 : Nat) #[Go.Value.string x_7] w fun (v : Go.Value) (w' : Go.World) => ∃ (x_8 : Option Go.Addr), ∃ (x_9 : Nat), ∃ (x_10 : Nat), v =
 Go.Value.slice x_8 x_9 x_10 ∧ Go.Sx.CallsV Go.Proofs.Try.prog (17 : Nat) #[Go.Value.pointer x, Go.Value.int Go.IntKind.i64 (1 : Int), Go.Value.slice x_8 x_9 x_10, Go.Value.slice Option.none (0 : Nat)
 (0 : Nat)] w' fun (v : Go.Value) (w' : Go.World) => ∃ (x : Bool), ∃ (x_11 : Int), v = Go.Value.tuple #[Go.Value.bool x, Go.Value.int Go.IntKind.i64 x_11] ∧ bif !Decidable.decide (x_11 = (0 : Int)) then
 K (Go.Value.bool Bool.false) w' else I (Go.IntKind.wrap Go.IntKind.i64 (x_6 + (1 : Int))) w' ∧ μ (Go.IntKind.wrap Go.IntKind.i64 (x_6 + (1 : Int))) w' < μ x_6 w else Go.Sx.CallsV Go.Proofs.Try.prog (54
 : Nat) #[Go.Value.string (ByteArray.mk #[(101 : UInt8)])] w fun (v : Go.Value) (w' : Go.World) => ∃ (x_7 : Option Go.Addr), ∃ (x_8 : Nat), ∃ (x_9 : Nat), v = Go.Value.slice x_7 x_8 x_9 ∧ Go.Sx.CallsV
 Go.Proofs.Try.prog (17 : Nat) #[Go.Value.pointer x, Go.Value.int Go.IntKind.i64 (1 : Int), Go.Value.slice x_7 x_8 x_9, Go.Value.slice Option.none (0 : Nat) (0 : Nat)] w' fun (v : Go.Value) (w' :
 Go.World) => ∃ (x_10 : Bool), ∃ (x_11 : Int), v = Go.Value.tuple #[Go.Value.bool x_10, Go.Value.int Go.IntKind.i64 x_11] ∧ Go.Sx.CallsV Go.Proofs.Try.prog (54 : Nat) #[Go.Value.string (ByteArray.mk
 #[(100 : UInt8)])] w' fun (v : Go.Value) (w' : Go.World) => ∃ (x_12 : Option Go.Addr), ∃ (x_13 : Nat), ∃ (x_14 : Nat), v = Go.Value.slice x_12 x_13 x_14 ∧ Go.Sx.CallsV Go.Proofs.Try.prog (54 : Nat)
 #[Go.Value.string (ByteArray.mk #[(109 : UInt8), (111 : UInt8), (114 : UInt8), (101 : UInt8)])] w' fun (v : Go.Value) (w' : Go.World) => ∃ (x_15 : Option Go.Addr), ∃ (x_16 : Nat), ∃ (x_17 : Nat), v =
 Go.Value.slice x_15 x_16 x_17 ∧ Go.Sx.CallsV Go.Proofs.Try.prog (17 : Nat) #[Go.Value.pointer x, Go.Value.int Go.IntKind.i64 (1 : Int), Go.Value.slice x_12 x_13 x_14, Go.Value.slice x_15 x_16 x_17] w'
 fun (v : Go.Value) (w' : Go.World) => ∃ (x_18 : Bool), ∃ (x_19 : Int), v = Go.Value.tuple #[Go.Value.bool x_18, Go.Value.int Go.IntKind.i64 x_19] ∧ Go.Sx.CallsV Go.Proofs.Try.prog (54 : Nat)
 #[Go.Value.string (ByteArray.mk #[(97 : UInt8)])] w' fun (v : Go.Value) (w' : Go.World) => ∃ (x_20 : Option Go.Addr), ∃ (x_21 : Nat), ∃ (x_22 : Nat), v = Go.Value.slice x_20 x_21 x_22 ∧ Go.Sx.CallsV
 Go.Proofs.Try.prog (29 : Nat) #[Go.Value.pointer x, Go.Value.int Go.IntKind.i64 (1 : Int), Go.Value.slice x_20 x_21 x_22] w' fun (v : Go.Value) (w' : Go.World) => ∃ (x_23 : Bool), ∃ (x_24 : Int), v =
 Go.Value.tuple #[Go.Value.bool x_23, Go.Value.int Go.IntKind.i64 x_24] ∧ Go.Sx.CallsV Go.Proofs.Try.prog (54 : Nat) #[Go.Value.string (ByteArray.mk #[(101 : UInt8)])] w' fun (v : Go.Value) (w' :
 Go.World) => ∃ (x_25 : Option Go.Addr), ∃ (x_26 : Nat), ∃ (x_27 : Nat), v = Go.Value.slice x_25 x_26 x_27 ∧ Go.Sx.CallsV Go.Proofs.Try.prog (17 : Nat) #[Go.Value.pointer x, Go.Value.int Go.IntKind.i64
 (1 : Int), Go.Value.slice x_25 x_26 x_27, Go.Value.slice Option.none (0 : Nat) (0 : Nat)] w' fun (v : Go.Value) (w' : Go.World) => ∃ (x_28 : Bool), ∃ (x_29 : Int), v = Go.Value.tuple #[Go.Value.bool
 x_28, Go.Value.int Go.IntKind.i64 x_29] ∧ bif !x_10 then bif Decidable.decide (x_11 = (5 : Int)) then bif x_18 then bif Decidable.decide (x_19 = (0 : Int)) then bif x_23 then bif Decidable.decide (x_24
 = (0 : Int)) then bif Decidable.decide (x_29 = (0 : Int)) then Go.Sx.CallsV Go.Proofs.Try.prog (28 : Nat) #[Go.Value.pointer x, Go.Value.int Go.IntKind.i64 (1 : Int)] w' fun (v : Go.Value) (w' :
 Go.World) => ∃ (x_30 : Int), v = Go.Value.int Go.IntKind.i64 x_30 ∧ bif Decidable.decide (x_30 = (4 : Int)) then Go.Sx.CallsV Go.Proofs.Try.prog (19 : Nat) #[Go.Value.pointer x] w' fun (v : Go.Value)
 (w' : Go.World) => ∃ (x : Int), v = Go.Value.int Go.IntKind.i64 x ∧ K (Go.Value.bool (Decidable.decide (x = (0 : Int)))) w' else K (Go.Value.bool Bool.false) w' else K (Go.Value.bool Bool.false) w'
 else K (Go.Value.bool Bool.false) w' else K (Go.Value.bool Bool.false) w' else K (Go.Value.bool Bool.false) w' else K (Go.Value.bool Bool.false) w' else K (Go.Value.bool Bool.false) w' else K
 (Go.Value.bool Bool.false) w'
theorem cardindexlaw04_full.eq  (w : World) (K : Value → World → Prop) : cardindexlaw04_full.W  w K = fnW Try.prog Try.f34 (.named (.seq .auto (.seq .auto (.seq .auto (.seq .auto (.seq .auto (.seq (.seq .auto (.block (.loop [(45, .one (.int .i64))] .auto))) .auto))))))) [] w K := by kernel_rfl
theorem cardindexlaw04_full.calls (ok : Okay Try.prog)  {w : World} {K : Value → World → Prop} (h : cardindexlaw04_full.W  w K) : CallsV Try.prog 34 #[] w K :=
  fnW_calls ok Try.func34 (an := (.named (.seq .auto (.seq .auto (.seq .auto (.seq .auto (.seq .auto (.seq (.seq .auto (.block (.loop [(45, .one (.int .i64))] .auto))) .auto)))))))) (args := []) (by rw [← cardindexlaw04_full.eq]; exact h)
noncomputable def cardindexlaw04_TreeNumbers.W : World → (Value → World → Prop) → Prop := fun (w : Go.World) (K : Go.Value → Go.World → Prop) => ∀ (g : Nat) (w' : Go.World), Go.Sx.Fresh w g w'
 [Go.Value.int Go.IntKind.i64 (3 : Int), Go.Value.int Go.IntKind.i64 (1 : Int), Go.Value.int Go.IntKind.i64 (65 : Int), Go.Value.int Go.IntKind.i64 (1 : Int), Go.Value.int Go.IntKind.i64 (4 : Int),
 Go.Value.int Go.IntKind.i64 (0 : Int), Go.Value.int Go.IntKind.i64 (4 : Int), Go.Value.int Go.IntKind.i64 (65537 : Int), Go.Value.int Go.IntKind.i64 (-4 : Int), Go.Value.int Go.IntKind.i64 (10 : Int)]
 (59 : Nat) → ∃ (I : Int → Go.World → Prop), ∃ (μ : Int → Go.World → Nat), I (0 : Int) w' ∧ ∀ (x : Int) (w : Go.World), I x w → bif Decidable.decide (x < (↑(5 : Nat) : Int)) then ∃ (ad : Go.Addr),
 Option.some (Go.Addr.mk g (0 : Nat) Option.none) = Option.some ad ∧ ((0 : Int) ≤ x ∧ x < (↑(5 : Nat) : Int)) ∧ ∃ (x_1 : Int), Go.World.cell? w (Go.Addr.add (Go.Addr.add ad (Int.toNat x * (2 : Nat))) (0
 : Nat)) = Option.some (Go.Value.int Go.IntKind.i64 x_1) ∧ ∃ (x_2 : Int), Go.World.cell? w (Go.Addr.add (Go.Addr.add ad (Int.toNat x * (2 : Nat))) (1 : Nat)) = Option.some (Go.Value.int Go.IntKind.i64
 x_2) ∧ ∀ (g : Nat) (w' : Go.World), Go.Sx.Fresh w g w' [Go.Value.int Go.IntKind.i64 (0 : Int), Go.Value.int Go.IntKind.i64 (0 : Int)] (59 : Nat) → Go.Sx.stOK (Go.Addr.mk g (0 : Nat) Option.none) (0 :
 Nat) [Go.Value.int Go.IntKind.i64 x_1, Go.Value.int Go.IntKind.i64 x_2] w' ∧ ∀ (w'_1 : Go.World), w'_1 = Go.Sx.setAll (Go.Addr.mk g (0 : Nat) Option.none) (0 : Nat) [Go.Value.int Go.IntKind.i64 x_1,
 Go.Value.int Go.IntKind.i64 x_2] w' → ((0 : Int) ≤ (0 : Int) ∧ (0 : Int) < (↑(2 : Nat) : Int)) ∧ ∃ (x_3 : Int), Go.World.cell? w'_1 (Go.Addr.add (Go.Addr.mk g (0 : Nat) Option.none) (Int.toNat (0 :
 Int) * (1 : Nat))) = Option.some (Go.Value.int Go.IntKind.i64 x_3) ∧ ((0 : Int) ≤ (1 : Int) ∧ (1 : Int) < (↑(2 : Nat) : Int)) ∧ ∃ (x_4 : Int), Go.World.cell? w'_1 (Go.Addr.add (Go.Addr.mk g (0 : Nat)
 Option.none) (Int.toNat (1 : Int) * (1 : Nat))) = Option.some (Go.Value.int Go.IntKind.i64 x_4) ∧ Go.Sx.CallsV Go.Proofs.Try.prog (13 : Nat) #[Go.Value.int Go.IntKind.i64 x_3, Go.Value.int
 Go.IntKind.i64 x_4] w'_1 fun (v : Go.Value) (w' : Go.World) => ∃ (x_5 : Option Go.Addr), ∃ (x_6 : Int), v = Go.Value.tuple #[Go.Value.pointer x_5, Go.Value.int Go.IntKind.i64 x_6] ∧ bif !Option.isNone
 x_5 then K (Go.Value.bool (Decidable.decide (x < (0 : Int)))) w' else bif !Decidable.decide (x_6 = (2 : Int)) then K (Go.Value.bool (Decidable.decide (x < (0 : Int)))) w' else I (Go.IntKind.wrap
 Go.IntKind.i64 (x + (1 : Int))) w' ∧ μ (Go.IntKind.wrap Go.IntKind.i64 (x + (1 : Int))) w' < μ x w else Go.Sx.CallsV Go.Proofs.Try.prog (13 : Nat) #[Go.Value.int Go.IntKind.i64 (64 : Int), Go.Value.int
 Go.IntKind.i64 (65536 : Int)] w fun (v : Go.Value) (w' : Go.World) => ∃ (x : Option Go.Addr), ∃ (x_1 : Int), v = Go.Value.tuple #[Go.Value.pointer x, Go.Value.int Go.IntKind.i64 x_1] ∧ Go.Sx.CallsV
 Go.Proofs.Try.prog (13 : Nat) #[Go.Value.int Go.IntKind.i64 (4 : Int), Go.Value.int Go.IntKind.i64 (10 : Int)] w' fun (v : Go.Value) (w' : Go.World) => ∃ (x_2 : Option Go.Addr), ∃ (x_3 : Int), v =
 Go.Value.tuple #[Go.Value.pointer x_2, Go.Value.int Go.IntKind.i64 x_3] ∧ bif !Decidable.decide (x_1 = (0 : Int)) then K (Go.Value.bool Bool.false) w' else bif !Decidable.decide (x_3 = (0 : Int)) then
 K (Go.Value.bool Bool.false) w' else ∃ (I : Int → Go.World → Prop), ∃ (μ : Int → Go.World → Nat), I (1 : Int) w' ∧ ∀ (x_4 : Int) (w : Go.World), I x_4 w → bif Decidable.decide (x_4 ≤ (1000 : Int)) then
 Go.Sx.CallsV Go.Proofs.Try.prog (14 : Nat) #[Go.Value.pointer x] w fun (v : Go.Value) (w' : Go.World) => ∃ (x : Int), ∃ (x_5 : Int), v = Go.Value.tuple #[Go.Value.int Go.IntKind.i64 x, Go.Value.int
 Go.IntKind.i64 x_5] ∧ bif !Decidable.decide (x = x_4) then K (Go.Value.bool Bool.false) w' else bif !Decidable.decide (x_5 = (0 : Int)) then K (Go.Value.bool Bool.false) w' else I (Go.IntKind.wrap
 Go.IntKind.i64 (x_4 + (1 : Int))) w' ∧ μ (Go.IntKind.wrap Go.IntKind.i64 (x_4 + (1 : Int))) w' < μ x_4 w else Go.Sx.CallsV Go.Proofs.Try.prog (14 : Nat) #[Go.Value.pointer x] w fun (v : Go.Value) (w' :
 Go.World) => ∃ (x_5 : Int), ∃ (x_6 : Int), v = Go.Value.tuple #[Go.Value.int Go.IntKind.i64 x_5, Go.Value.int Go.IntKind.i64 x_6] ∧ Go.Sx.CallsV Go.Proofs.Try.prog (30 : Nat) #[Go.Value.pointer x,
 Go.Value.int Go.IntKind.i64 (7 : Int)] w' fun (v : Go.Value) (w' : Go.World) => ∃ (x_7 : Int), v = Go.Value.int Go.IntKind.i64 x_7 ∧ Go.Sx.CallsV Go.Proofs.Try.prog (30 : Nat) #[Go.Value.pointer x,
 Go.Value.int Go.IntKind.i64 (7 : Int)] w' fun (v : Go.Value) (w' : Go.World) => ∃ (x_8 : Int), v = Go.Value.int Go.IntKind.i64 x_8 ∧ Go.Sx.CallsV Go.Proofs.Try.prog (14 : Nat) #[Go.Value.pointer x] w'
 fun (v : Go.Value) (w' : Go.World) => ∃ (x_9 : Int), ∃ (x_10 : Int), v = Go.Value.tuple #[Go.Value.int Go.IntKind.i64 x_9, Go.Value.int Go.IntKind.i64 x_10] ∧ Go.Sx.CallsV Go.Proofs.Try.prog (17 : Nat)
 #[Go.Value.pointer x, Go.Value.int Go.IntKind.i64 (7 : Int), Go.Value.slice Option.none (0 : Nat) (0 : Nat), Go.Value.slice Option.none (0 : Nat) (0 : Nat)] w' fun (v : Go.Value) (w' : Go.World) => ∃
 (x_11 : Bool), ∃ (x_12 : Int), v = Go.Value.tuple #[Go.Value.bool x_11, Go.Value.int Go.IntKind.i64 x_12] ∧ Go.Sx.CallsV Go.Proofs.Try.prog (29 : Nat) #[Go.Value.pointer x, Go.Value.int Go.IntKind.i64
 (7 : Int), Go.Value.slice Option.none (0 : Nat) (0 : Nat)] w' fun (v : Go.Value) (w' : Go.World) => ∃ (x_13 : Bool), ∃ (x_14 : Int), v = Go.Value.tuple #[Go.Value.bool x_13, Go.Value.int Go.IntKind.i64
 x_14] ∧ Go.Sx.CallsV Go.Proofs.Try.prog (23 : Nat) #[Go.Value.pointer x, Go.Value.int Go.IntKind.i64 (7 : Int), Go.Value.slice Option.none (0 : Nat) (0 : Nat)] w' fun (v : Go.Value) (w' : Go.World) =>
 ∃ (x_15 : Option Go.Addr), ∃ (x_16 : Nat), ∃ (x_17 : Nat), ∃ (x_18 : Bool), v = Go.Value.tuple #[Go.Value.slice x_15 x_16 x_17, Go.Value.bool x_18] ∧ Go.Sx.CallsV Go.Proofs.Try.prog (24 : Nat)
 #[Go.Value.pointer x, Go.Value.int Go.IntKind.i64 (7 : Int), Go.Value.slice Option.none (0 : Nat) (0 : Nat), Go.Value.bool Bool.true] w' fun (v : Go.Value) (w' : Go.World) => ∃ (x_19 : Option Go.Addr),
 ∃ (x_20 : Nat), ∃ (x_21 : Nat), ∃ (x_22 : Option Go.Addr), ∃ (x_23 : Nat), ∃ (x_24 : Nat), ∃ (x_25 : Bool), v = Go.Value.tuple #[Go.Value.slice x_19 x_20 x_21, Go.Value.slice x_22 x_23 x_24,
 Go.Value.bool x_25] ∧ Go.Sx.CallsV Go.Proofs.Try.prog (33 : Nat) #[Go.Value.pointer x, Go.Value.int Go.IntKind.i64 (7 : Int), Go.Value.slice Option.none (0 : Nat) (0 : Nat), Go.Value.bool Bool.true] w'
 fun (v : Go.Value) (w' : Go.World) => ∃ (x_26 : Option Go.Addr), ∃ (x_27 : Nat), ∃ (x_28 : Nat), ∃ (x_29 : Option Go.Addr), ∃ (x_30 : Nat), ∃ (x_31 : Nat), ∃ (x_32 : Bool), v = Go.Value.tuple
 #[Go.Value.slice x_26 x_27 x_28, Go.Value.slice x_29 x_30 x_31, Go.Value.bool x_32] ∧ Go.Sx.CallsV Go.Proofs.Try.prog (25 : Nat) #[Go.Value.pointer x, Go.Value.int Go.IntKind.i64 (7 : Int)] w' fun (v :
 Go.Value) (w' : Go.World) => ∃ (x_33 : Option Go.Addr), ∃ (x_34 : Nat), ∃ (x_35 : Nat), ∃ (x_36 : Option Go.Addr), ∃ (x_37 : Nat), ∃ (x_38 : Nat), ∃ (x_39 : Bool), v = Go.Value.tuple #[Go.Value.slice
 x_33 x_34 x_35, Go.Value.slice x_36 x_37 x_38, Go.Value.bool x_39] ∧ bif Decidable.decide (x_6 = (5 : Int)) then bif Decidable.decide (x_7 = (0 : Int)) then bif Decidable.decide (x_8 = (41 : Int)) then
 bif Decidable.decide (x_9 = (1001 : Int)) then bif Decidable.decide (x_10 = (0 : Int)) then bif Decidable.decide (x_12 = (41 : Int)) then bif Decidable.decide (x_14 = (41 : Int)) then bif !x_18 then
 bif !x_25 then bif !x_32 then bif !x_39 then Go.Sx.CallsV Go.Proofs.Try.prog (28 : Nat) #[Go.Value.pointer x, Go.Value.int Go.IntKind.i64 (7 : Int)] w' fun (v : Go.Value) (w' : Go.World) => ∃ (x_40 :
 Int), v = Go.Value.int Go.IntKind.i64 x_40 ∧ Go.Sx.CallsV Go.Proofs.Try.prog (16 : Nat) #[Go.Value.pointer x, Go.Value.int Go.IntKind.i64 (7 : Int)] w' fun (v : Go.Value) (w' : Go.World) => ∃ (x_41 :
 Int), v = Go.Value.int Go.IntKind.i64 x_41 ∧ bif Decidable.decide (Go.IntKind.wrap Go.IntKind.i64 (x_40 + x_41) = (0 : Int)) then Go.Sx.CallsV Go.Proofs.Try.prog (16 : Nat) #[Go.Value.pointer x,
 Go.Value.int Go.IntKind.i64 (1 : Int)] w' fun (v : Go.Value) (w' : Go.World) => ∃ (x_42 : Int), v = Go.Value.int Go.IntKind.i64 x_42 ∧ bif Decidable.decide (x_42 = (1 : Int)) then Go.Sx.CallsV
 Go.Proofs.Try.prog (15 : Nat) #[Go.Value.pointer x] w' fun (v : Go.Value) (w' : Go.World) => ∃ (x_43 : Int), v = Go.Value.int Go.IntKind.i64 x_43 ∧ ∃ (x_44 : Option Go.Addr), ∃ (x_45 : Nat), ∃ (x_46 :
 Nat), ∃ (w'_1 : Go.World), Go.Sx.RunsTo Go.Proofs.Try.prog (Go.Instr.makeSlice (36 : Nat) (Go.Value.int Go.IntKind.i64 (1048577 : Int)) (Go.Value.int Go.IntKind.i64 (1048577 : Int))) w' (Go.Value.slice
 x_44 x_45 x_46) w'_1 ∧ Go.Sx.CallsV Go.Proofs.Try.prog (17 : Nat) #[Go.Value.pointer x, Go.Value.int Go.IntKind.i64 (1 : Int), Go.Value.slice x_44 x_45 x_46, Go.Value.slice Option.none (0 : Nat) (0 :
 Nat)] w'_1 fun (v : Go.Value) (w' : Go.World) => ∃ (x_47 : Bool), ∃ (x_48 : Int), v = Go.Value.tuple #[Go.Value.bool x_47, Go.Value.int Go.IntKind.i64 x_48] ∧ ∃ (x_49 : Option Go.Addr), ∃ (x_50 : Nat),
 ∃ (x_51 : Nat), ∃ (w'_2 : Go.World), Go.Sx.RunsTo Go.Proofs.Try.prog (Go.Instr.makeSlice (36 : Nat) (Go.Value.int Go.IntKind.i64 (1048577 : Int)) (Go.Value.int Go.IntKind.i64 (1048577 : Int))) w'
 (Go.Value.slice x_49 x_50 x_51) w'_2 ∧ Go.Sx.CallsV Go.Proofs.Try.prog (17 : Nat) #[Go.Value.pointer x, Go.Value.int Go.IntKind.i64 (1 : Int), Go.Value.slice Option.none (0 : Nat) (0 : Nat),
 Go.Value.slice x_49 x_50 x_51] w'_2 fun (v : Go.Value) (w' : Go.World) => ∃ (x_52 : Bool), ∃ (x_53 : Int), v = Go.Value.tuple #[Go.Value.bool x_52, Go.Value.int Go.IntKind.i64 x_53] ∧ ∃ (J : Int →
 Go.World → Prop), (∀ (x_54 : Int) (w : Go.World), J x_54 w → Go.Sx.CallsV Go.Proofs.Try.prog (31 : Nat) #[Go.Value.pointer x_2] w fun (v : Go.Value) (w' : Go.World) => ∃ (x_55 : Option Go.Addr), v =
 Go.Value.pointer x_55 ∧ bif Decidable.decide (x_43 = (1000 : Int)) then bif Decidable.decide (x_48 = (3 : Int)) then bif Decidable.decide (x_53 = (3 : Int)) then bif Decidable.decide (x_54 = (0 : Int))
 then Go.Sx.CallsV Go.Proofs.Try.prog (32 : Nat) #[Go.Value.pointer x, Go.Value.pointer x_55] w' fun (v : Go.Value) (w' : Go.World) => ∃ (x_56 : Int), v = Go.Value.int Go.IntKind.i64 x_56 ∧ bif
 Decidable.decide (x_56 = (2 : Int)) then Go.Sx.CallsV Go.Proofs.Try.prog (32 : Nat) #[Go.Value.pointer x, Go.Value.pointer Option.none] w' fun (v : Go.Value) (w' : Go.World) => ∃ (x_57 : Int), v =
 Go.Value.int Go.IntKind.i64 x_57 ∧ bif Decidable.decide (x_57 = (2 : Int)) then ∀ (g : Nat) (w'_3 : Go.World), Go.Sx.Fresh w' g w'_3 [Go.Value.pointer Option.none, Go.Value.slice Option.none (0 : Nat)
 (0 : Nat), Go.Value.slice Option.none (0 : Nat) (0 : Nat), Go.Value.map Option.none, Go.Value.int Go.IntKind.i64 (0 : Int)] (63 : Nat) → Go.Sx.CallsV Go.Proofs.Try.prog (32 : Nat) #[Go.Value.pointer x,
 Go.Value.pointer (Option.some (Go.Addr.mk g (0 : Nat) Option.none))] w'_3 fun (v : Go.Value) (w' : Go.World) => ∃ (x : Int), v = Go.Value.int Go.IntKind.i64 x ∧ bif Decidable.decide (x = (2 : Int))
 then Go.Sx.CallsV Go.Proofs.Try.prog (32 : Nat) #[Go.Value.pointer x_2, Go.Value.pointer x_55] w' fun (v : Go.Value) (w' : Go.World) => ∃ (x : Int), v = Go.Value.int Go.IntKind.i64 x ∧ bif
 Decidable.decide (x = (0 : Int)) then Go.Sx.CallsV Go.Proofs.Try.prog (34 : Nat) #[] w' fun (v : Go.Value) (w' : Go.World) => ∃ (x : Bool), v = Go.Value.bool x ∧ bif x then Go.Sx.CallsV
 Go.Proofs.Try.prog (21 : Nat) #[] w' fun (v : Go.Value) (w' : Go.World) => ∃ (x : Bool), v = Go.Value.bool x ∧ K (Go.Value.bool x) w' else K (Go.Value.bool Bool.false) w' else K (Go.Value.bool
 Bool.false) w' else K (Go.Value.bool Bool.false) w' else K (Go.Value.bool Bool.false) w' else K (Go.Value.bool Bool.false) w' else K (Go.Value.bool Bool.false) w' else K (Go.Value.bool Bool.false) w'
 else K (Go.Value.bool Bool.false) w' else K (Go.Value.bool Bool.false) w') ∧ (∃ (x_54 : Option Go.Addr), ∃ (x_55 : Nat), ∃ (x_56 : Nat), ∃ (w'_3 : Go.World), Go.Sx.RunsTo Go.Proofs.Try.prog
 (Go.Instr.makeSlice (36 : Nat) (Go.Value.int Go.IntKind.i64 (1048576 : Int)) (Go.Value.int Go.IntKind.i64 (1048576 : Int))) (Go.World.drew w') (Go.Value.slice x_54 x_55 x_56) w'_3 ∧ ∃ (x_57 : Option
 Go.Addr), ∃ (x_58 : Nat), ∃ (x_59 : Nat), ∃ (w' : Go.World), Go.Sx.RunsTo Go.Proofs.Try.prog (Go.Instr.makeSlice (36 : Nat) (Go.Value.int Go.IntKind.i64 (1048576 : Int)) (Go.Value.int Go.IntKind.i64
 (1048576 : Int))) w'_3 (Go.Value.slice x_57 x_58 x_59) w' ∧ Go.Sx.CallsV Go.Proofs.Try.prog (17 : Nat) #[Go.Value.pointer x, Go.Value.int Go.IntKind.i64 (1 : Int), Go.Value.slice x_54 x_55 x_56,
 Go.Value.slice x_57 x_58 x_59] w' fun (v : Go.Value) (w' : Go.World) => ∃ (x : Bool), ∃ (x_60 : Int), v = Go.Value.tuple #[Go.Value.bool x, Go.Value.int Go.IntKind.i64 x_60] ∧ J x_60 w') ∧ ∃ (x_54 :
 Option Go.Addr), ∃ (x_55 : Nat), ∃ (x_56 : Nat), ∃ (w'_3 : Go.World), Go.Sx.RunsTo Go.Proofs.Try.prog (Go.Instr.makeSlice (36 : Nat) (Go.Value.int Go.IntKind.i64 (1048576 : Int)) (Go.Value.int
 Go.IntKind.i64 (1048576 : Int))) (Go.World.drew w') (Go.Value.slice x_54 x_55 x_56) w'_3 ∧ ∃ (x_57 : Option Go.Addr), ∃ (x_58 : Nat), ∃ (x_59 : Nat), ∃ (w' : Go.World), Go.Sx.RunsTo Go.Proofs.Try.prog
 (Go.Instr.makeSlice (36 : Nat) (Go.Value.int Go.IntKind.i64 (1048576 : Int)) (Go.Value.int Go.IntKind.i64 (1048576 : Int))) w'_3 (Go.Value.slice x_57 x_58 x_59) w' ∧ Go.Sx.CallsV Go.Proofs.Try.prog (17
 : Nat) #[Go.Value.pointer x, Go.Value.int Go.IntKind.i64 (1 : Int), Go.Value.slice x_57 x_58 x_59, Go.Value.slice x_54 x_55 x_56] w' fun (v : Go.Value) (w' : Go.World) => ∃ (x : Bool), ∃ (x_60 : Int),
 v = Go.Value.tuple #[Go.Value.bool x, Go.Value.int Go.IntKind.i64 x_60] ∧ J x_60 w' else ∃ (x_43 : Option Go.Addr), ∃ (x_44 : Nat), ∃ (x_45 : Nat), ∃ (w'_1 : Go.World), Go.Sx.RunsTo Go.Proofs.Try.prog
 (Go.Instr.makeSlice (36 : Nat) (Go.Value.int Go.IntKind.i64 (1048577 : Int)) (Go.Value.int Go.IntKind.i64 (1048577 : Int))) w' (Go.Value.slice x_43 x_44 x_45) w'_1 ∧ Go.Sx.CallsV Go.Proofs.Try.prog (17
 : Nat) #[Go.Value.pointer x, Go.Value.int Go.IntKind.i64 (1 : Int), Go.Value.slice x_43 x_44 x_45, Go.Value.slice Option.none (0 : Nat) (0 : Nat)] w'_1 fun (v : Go.Value) (w' : Go.World) => ∃ (x_46 :
 Bool), ∃ (x_47 : Int), v = Go.Value.tuple #[Go.Value.bool x_46, Go.Value.int Go.IntKind.i64 x_47] ∧ ∃ (x_48 : Option Go.Addr), ∃ (x_49 : Nat), ∃ (x_50 : Nat), ∃ (w'_2 : Go.World), Go.Sx.RunsTo
 Go.Proofs.Try.prog (Go.Instr.makeSlice (36 : Nat) (Go.Value.int Go.IntKind.i64 (1048577 : Int)) (Go.Value.int Go.IntKind.i64 (1048577 : Int))) w' (Go.Value.slice x_48 x_49 x_50) w'_2 ∧ Go.Sx.CallsV
 Go.Proofs.Try.prog (17 : Nat) #[Go.Value.pointer x, Go.Value.int Go.IntKind.i64 (1 : Int), Go.Value.slice Option.none (0 : Nat) (0 : Nat), Go.Value.slice x_48 x_49 x_50] w'_2 fun (v : Go.Value) (w' :
 Go.World) => ∃ (x_51 : Bool), ∃ (x_52 : Int), v = Go.Value.tuple #[Go.Value.bool x_51, Go.Value.int Go.IntKind.i64 x_52] ∧ ∃ (J : Int → Go.World → Prop), (∀ (x : Int) (w : Go.World), J x w →
 Go.Sx.CallsV Go.Proofs.Try.prog (31 : Nat) #[Go.Value.pointer x_2] w fun (v : Go.Value) (w' : Go.World) => ∃ (x : Option Go.Addr), v = Go.Value.pointer x ∧ K (Go.Value.bool Bool.false) w') ∧ (∃ (x_53 :
 Option Go.Addr), ∃ (x_54 : Nat), ∃ (x_55 : Nat), ∃ (w'_3 : Go.World), Go.Sx.RunsTo Go.Proofs.Try.prog (Go.Instr.makeSlice (36 : Nat) (Go.Value.int Go.IntKind.i64 (1048576 : Int)) (Go.Value.int
 Go.IntKind.i64 (1048576 : Int))) (Go.World.drew w') (Go.Value.slice x_53 x_54 x_55) w'_3 ∧ ∃ (x_56 : Option Go.Addr), ∃ (x_57 : Nat), ∃ (x_58 : Nat), ∃ (w' : Go.World), Go.Sx.RunsTo Go.Proofs.Try.prog
 (Go.Instr.makeSlice (36 : Nat) (Go.Value.int Go.IntKind.i64 (1048576 : Int)) (Go.Value.int Go.IntKind.i64 (1048576 : Int))) w'_3 (Go.Value.slice x_56 x_57 x_58) w' ∧ Go.Sx.CallsV Go.Proofs.Try.prog (17
 : Nat) #[Go.Value.pointer x, Go.Value.int Go.IntKind.i64 (1 : Int), Go.Value.slice x_53 x_54 x_55, Go.Value.slice x_56 x_57 x_58] w' fun (v : Go.Value) (w' : Go.World) => ∃ (x : Bool), ∃ (x_59 : Int),
 v = Go.Value.tuple #[Go.Value.bool x, Go.Value.int Go.IntKind.i64 x_59] ∧ J x_59 w') ∧ ∃ (x_53 : Option Go.Addr), ∃ (x_54 : Nat), ∃ (x_55 : Nat), ∃ (w'_3 : Go.World), Go.Sx.RunsTo Go.Proofs.Try.prog
 (Go.Instr.makeSlice (36 : Nat) (Go.Value.int Go.IntKind.i64 (1048576 : Int)) (Go.Value.int Go.IntKind.i64 (1048576 : Int))) (Go.World.drew w') (Go.Value.slice x_53 x_54 x_55) w'_3 ∧ ∃ (x_56 : Option
 Go.Addr), ∃ (x_57 : Nat), ∃ (x_58 : Nat), ∃ (w' : Go.World), Go.Sx.RunsTo Go.Proofs.Try.prog (Go.Instr.makeSlice (36 : Nat) (Go.Value.int Go.IntKind.i64 (1048576 : Int)) (Go.Value.int Go.IntKind.i64
 (1048576 : Int))) w'_3 (Go.Value.slice x_56 x_57 x_58) w' ∧ Go.Sx.CallsV Go.Proofs.Try.prog (17 : Nat) #[Go.Value.pointer x, Go.Value.int Go.IntKind.i64 (1 : Int), Go.Value.slice x_56 x_57 x_58,
 Go.Value.slice x_53 x_54 x_55] w' fun (v : Go.Value) (w' : Go.World) => ∃ (x : Bool), ∃ (x_59 : Int), v = Go.Value.tuple #[Go.Value.bool x, Go.Value.int Go.IntKind.i64 x_59] ∧ J x_59 w' else ∃ (x_42 :
 Option Go.Addr), ∃ (x_43 : Nat), ∃ (x_44 : Nat), ∃ (w'_1 : Go.World), Go.Sx.RunsTo Go.Proofs.Try.prog (Go.Instr.makeSlice (36 : Nat) (Go.Value.int Go.IntKind.i64 (1048577 : Int)) (Go.Value.int
 Go.IntKind.i64 (1048577 : Int))) w' (Go.Value.slice x_42 x_43 x_44) w'_1 ∧ Go.Sx.CallsV Go.Proofs.Try.prog (17 : Nat) #[Go.Value.pointer x, Go.Value.int Go.IntKind.i64 (1 : Int), Go.Value.slice x_42
 x_43 x_44, Go.Value.slice Option.none (0 : Nat) (0 : Nat)] w'_1 fun (v : Go.Value) (w' : Go.World) => ∃ (x_45 : Bool), ∃ (x_46 : Int), v = Go.Value.tuple #[Go.Value.bool x_45, Go.Value.int
 Go.IntKind.i64 x_46] ∧ ∃ (x_47 : Option Go.Addr), ∃ (x_48 : Nat), ∃ (x_49 : Nat), ∃ (w'_2 : Go.World), Go.Sx.RunsTo Go.Proofs.Try.prog (Go.Instr.makeSlice (36 : Nat) (Go.Value.int Go.IntKind.i64
 (1048577 : Int)) (Go.Value.int Go.IntKind.i64 (1048577 : Int))) w' (Go.Value.slice x_47 x_48 x_49) w'_2 ∧ Go.Sx.CallsV Go.Proofs.Try.prog (17 : Nat) #[Go.Value.pointer x, Go.Value.int Go.IntKind.i64 (1
 : Int), Go.Value.slice Option.none (0 : Nat) (0 : Nat), Go.Value.slice x_47 x_48 x_49] w'_2 fun (v : Go.Value) (w' : Go.World) => ∃ (x_50 : Bool), ∃ (x_51 : Int), v = Go.Value.tuple #[Go.Value.bool
 x_50, Go.Value.int Go.IntKind.i64 x_51] ∧ ∃ (J : Int → Go.World → Prop), (∀ (x : Int) (w : Go.World), J x w → Go.Sx.CallsV Go.Proofs.Try.prog (31 : Nat) #[Go.Value.pointer x_2] w fun (v : Go.Value) (w'
 : Go.World) => ∃ (x : Option Go.Addr), v = Go.Value.pointer x ∧ K (Go.Value.bool Bool.false) w') ∧ (∃ (x_52 : Option Go.Addr), ∃ (x_53 : Nat), ∃ (x_54 : Nat), ∃ (w'_3 : Go.World), Go.Sx.RunsTo
 Go.Proofs.Try.prog (Go.Instr.makeSlice (36 : Nat) (Go.Value.int Go.IntKind.i64 (1048576 : Int)) (Go.Value.int Go.IntKind.i64 (1048576 : Int))) (Go.World.drew w') (Go.Value.slice x_52 x_53 x_54) w'_3 ∧
 ∃ (x_55 : Option Go.Addr), ∃ (x_56 : Nat), ∃ (x_57 : Nat), ∃ (w' : Go.World), Go.Sx.RunsTo Go.Proofs.Try.prog (Go.Instr.makeSlice (36 : Nat) (Go.Value.int Go.IntKind.i64 (1048576 : Int)) (Go.Value.int
 Go.IntKind.i64 (1048576 : Int))) w'_3 (Go.Value.slice x_55 x_56 x_57) w' ∧ Go.Sx.CallsV Go.Proofs.Try.prog (17 : Nat) #[Go.Value.pointer x, Go.Value.int Go.IntKind.i64 (1 : Int), Go.Value.slice x_52
 x_53 x_54, Go.Value.slice x_55 x_56 x_57] w' fun (v : Go.Value) (w' : Go.World) => ∃ (x : Bool), ∃ (x_58 : Int), v = Go.Value.tuple #[Go.Value.bool x, Go.Value.int Go.IntKind.i64 x_58] ∧ J x_58 w') ∧ ∃
 (x_52 : Option Go.Addr), ∃ (x_53 : Nat), ∃ (x_54 : Nat), ∃ (w'_3 : Go.World), Go.Sx.RunsTo Go.Proofs.Try.prog (Go.Instr.makeSlice (36 : Nat) (Go.Value.int Go.IntKind.i64 (1048576 : Int)) (Go.Value.int
 Go.IntKind.i64 (1048576 : Int))) (Go.World.drew w') (Go.Value.slice x_52 x_53 x_54) w'_3 ∧ ∃ (x_55 : Option Go.Addr), ∃ (x_56 : Nat), ∃ (x_57 : Nat), ∃ (w' : Go.World), Go.Sx.RunsTo Go.Proofs.Try.prog
 (Go.Instr.makeSlice (36 : Nat) (Go.Value.int Go.IntKind.i64 (1048576 : Int)) (Go.Value.int Go.IntKind.i64 (1048576 : Int))) w'_3 (Go.Value.slice x_55 x_56 x_57) w' ∧ Go.Sx.CallsV Go.Proofs.Try.prog (17
 : Nat) #[Go.Value.pointer x, Go.Value.int Go.IntKind.i64 (1 : Int), Go.Value.slice x_55 x_56 x_57, Go.Value.slice x_52 x_53 x_54] w' fun (v : Go.Value) (w' : Go.World) => ∃ (x : Bool), ∃ (x_58 : Int),
 v = Go.Value.tuple #[Go.Value.bool x, Go.Value.int Go.IntKind.i64 x_58] ∧ J x_58 w' else ∃ (x_40 : Option Go.Addr), ∃ (x_41 : Nat), ∃ (x_42 : Nat), ∃ (w'_1 : Go.World), Go.Sx.RunsTo Go.Proofs.Try.prog
 (Go.Instr.makeSlice (36 : Nat) (Go.Value.int Go.IntKind.i64 (1048577 : Int)) (Go.Value.int Go.IntKind.i64 (1048577 : Int))) w' (Go.Value.slice x_40 x_41 x_42) w'_1 ∧ Go.Sx.CallsV Go.Proofs.Try.prog (17
 : Nat) #[Go.Value.pointer x, Go.Value.int Go.IntKind.i64 (1 : Int), Go.Value.slice x_40 x_41 x_42, Go.Value.slice Option.none (0 : Nat) (0 : Nat)] w'_1 fun (v : Go.Value) (w' : Go.World) => ∃ (x_43 :
 Bool), ∃ (x_44 : Int), v = Go.Value.tuple #[Go.Value.bool x_43, Go.Value.int Go.IntKind.i64 x_44] ∧ ∃ (x_45 : Option Go.Addr), ∃ (x_46 : Nat), ∃ (x_47 : Nat), ∃ (w'_2 : Go.World), Go.Sx.RunsTo
 Go.Proofs.Try.prog (Go.Instr.makeSlice (36 : Nat) (Go.Value.int Go.IntKind.i64 (1048577 : Int)) (Go.Value.int Go.IntKind.i64 (1048577 : Int))) w' (Go.Value.slice x_45 x_46 x_47) w'_2 ∧ Go.Sx.CallsV
 Go.Proofs.Try.prog (17 : Nat) #[Go.Value.pointer x, Go.Value.int Go.IntKind.i64 (1 : Int), Go.Value.slice Option.none (0 : Nat) (0 : Nat), Go.Value.slice x_45 x_46 x_47] w'_2 fun (v : Go.Value) (w' :
 Go.World) => ∃ (x_48 : Bool), ∃ (x_49 : Int), v = Go.Value.tuple #[Go.Value.bool x_48, Go.Value.int Go.IntKind.i64 x_49] ∧ ∃ (J : Int → Go.World → Prop), (∀ (x : Int) (w : Go.World), J x w →
 Go.Sx.CallsV Go.Proofs.Try.prog (31 : Nat) #[Go.Value.pointer x_2] w fun (v : Go.Value) (w' : Go.World) => ∃ (x : Option Go.Addr), v = Go.Value.pointer x ∧ K (Go.Value.bool Bool.false) w') ∧ (∃ (x_50 :
 Option Go.Addr), ∃ (x_51 : Nat), ∃ (x_52 : Nat), ∃ (w'_3 : Go.World), Go.Sx.RunsTo Go.Proofs.Try.prog (Go.Instr.makeSlice (36 : Nat) (Go.Value.int Go.IntKind.i64 (1048576 : Int)) (Go.Value.int
 Go.IntKind.i64 (1048576 : Int))) (Go.World.drew w') (Go.Value.slice x_50 x_51 x_52) w'_3 ∧ ∃ (x_53 : Option Go.Addr), ∃ (x_54 : Nat), ∃ (x_55 : Nat), ∃ (w' : Go.World), Go.Sx.RunsTo Go.Proofs.Try.prog
 (Go.Instr.makeSlice (36 : Nat) (Go.Value.int Go.IntKind.i64 (1048576 : Int)) (Go.Value.int Go.IntKind.i64 (1048576 : Int))) w'_3 (Go.Value.slice x_53 x_54 x_55) w' ∧ Go.Sx.CallsV Go.Proofs.Try.prog (17
 : Nat) #[Go.Value.pointer x, Go.Value.int Go.IntKind.i64 (1 : Int), Go.Value.slice x_50 x_51 x_52, Go.Value.slice x_53 x_54 x_55] w' fun (v : Go.Value) (w' : Go.World) => ∃ (x : Bool), ∃ (x_56 : Int),
 v = Go.Value.tuple #[Go.Value.bool x, Go.Value.int Go.IntKind.i64 x_56] ∧ J x_56 w') ∧ ∃ (x_50 : Option Go.Addr), ∃ (x_51 : Nat), ∃ (x_52 : Nat), ∃ (w'_3 : Go.World), Go.Sx.RunsTo Go.Proofs.Try.prog
 (Go.Instr.makeSlice (36 : Nat) (Go.Value.int Go.IntKind.i64 (1048576 : Int)) (Go.Value.int Go.IntKind.i64 (1048576 : Int))) (Go.World.drew w') (Go.Value.slice x_50 x_51 x_52) w'_3 ∧ ∃ (x_53 : Option
 Go.Addr), ∃ (x_54 : Nat), ∃ (x_55 : Nat), ∃ (w' : Go.World), Go.Sx.RunsTo Go.Proofs.Try.prog (Go.Instr.makeSlice (36 : Nat) (Go.Value.int Go.IntKind.i64 (1048576 : Int)) (Go.Value.int Go.IntKind.i64
 (1048576 : Int))) w'_3 (Go.Value.slice x_53 x_54 x_55) w' ∧ Go.Sx.CallsV Go.Proofs.Try.prog (17 : Nat) #[Go.Value.pointer x, Go.Value.int Go.IntKind.i64 (1 : Int), Go.Value.slice x_53 x_54 x_55,
 Go.Value.slice x_50 x_51 x_52] w' fun (v : Go.Value) (w' : Go.World) => ∃ (x : Bool), ∃ (x_56 : Int), v = Go.Value.tuple #[Go.Value.bool x, Go.Value.int Go.IntKind.i64 x_56] ∧ J x_56 w' else ∃ (x_40 :
 Option Go.Addr), ∃ (x_41 : Nat), ∃ (x_42 : Nat), ∃ (w'_1 : Go.World), Go.Sx.RunsTo Go.Proofs.Try.prog (Go.Instr.makeSlice (36 : Nat) (Go.Value.int Go.IntKind.i64 (1048577 : Int)) (Go.Value.int
 Go.IntKind.i64 (1048577 : Int))) w' (Go.Value.slice x_40 x_41 x_42) w'_1 ∧ Go.Sx.CallsV Go.Proofs.Try.prog (17 : Nat) #[Go.Value.pointer x, Go.Value.int Go.IntKind.i64 (1 : Int), Go.Value.slice x_40
 x_41 x_42, Go.Value.slice Option.none (0 : Nat) (0 : Nat)] w'_1 fun (v : Go.Value) (w' : Go.World) => ∃ (x_43 : Bool), ∃ (x_44 : Int), v = Go.Value.tuple #[Go.Value.bool x_43, Go.Value.int
 Go.IntKind.i64 x_44] ∧ ∃ (x_45 : Option Go.Addr), ∃ (x_46 : Nat), ∃ (x_47 : Nat), ∃ (w'_2 : Go.World), Go.Sx.RunsTo Go.Proofs.Try.prog (Go.Instr.makeSlice (36 : Nat) (Go.Value.int Go.IntKind.i64
 (1048577 : Int)) (Go.Value.int Go.IntKind.i64 (1048577 : Int))) w' (Go.Value.slice x_45 x_46 x_47) w'_2 ∧ Go.Sx.CallsV Go.Proofs.Try.prog (17 : Nat) #[Go.Value.pointer x, Go.Value.int Go.IntKind.i64 (1
 : Int), Go.Value.slice Option.none (0 : Nat) (0 : Nat), Go.Value.slice x_45 x_46 x_47] w'_2 fun (v : Go.Value) (w' : Go.World) => ∃ (x_48 : Bool), ∃ (x_49 : Int), v = Go.Value.tuple #[Go.Value.bool
 x_48, Go.Value.int Go.IntKind.i64 x_49] ∧ ∃ (J : Int → Go.World → Prop), (∀ (x : Int) (w : Go.World), J x w → Go.Sx.CallsV Go.Proofs.Try.prog (31 : Nat) #[Go.Value.pointer x_2] w fun (v : Go.Value) (w'
 : Go.World) => ∃ (x : Option Go.Addr), v = Go.Value.pointer x ∧ K (Go.Value.bool Bool.false) w') ∧ (∃ (x_50 : Option Go.Addr), ∃ (x_51 : Nat), ∃ (x_52 : Nat), ∃ (w'_3 : Go.World), Go.Sx.RunsTo
 Go.Proofs.Try.prog (Go.Instr.makeSlice (36 : Nat) (Go.Value.int Go.IntKind.i64 (1048576 : Int)) (Go.Value.int Go.IntKind.i64 (1048576 : Int))) (Go.World.drew w') (Go.Value.slice x_50 x_51 x_52) w'_3 ∧
 ∃ (x_53 : Option Go.Addr), ∃ (x_54 : Nat), ∃ (x_55 : Nat), ∃ (w' : Go.World), Go.Sx.RunsTo Go.Proofs.Try.prog (Go.Instr.makeSlice (36 : Nat) (Go.Value.int Go.IntKind.i64 (1048576 : Int)) (Go.Value.int
 Go.IntKind.i64 (1048576 : Int))) w'_3 (Go.Value.slice x_53 x_54 x_55) w' ∧ Go.Sx.CallsV Go.Proofs.Try.prog (17 : Nat) #[Go.Value.pointer x, Go.Value.int Go.IntKind.i64 (1 : Int), Go.Value.slice x_50
 x_51 x_52, Go.Value.slice x_53 x_54 x_55] w' fun (v : Go.Value) (w' : Go.World) => ∃ (x : Bool), ∃ (x_56 : Int), v = Go.Value.tuple #[Go.Value.bool x, Go.Value.int Go.IntKind.i64 x_56] ∧ J x_56 w') ∧ ∃
 (x_50 : Option Go.Addr), ∃ (x_51 : Nat), ∃ (x_52 : Nat), ∃ (w'_3 : Go.World), Go.Sx.RunsTo Go.Proofs.Try.prog (Go.Instr.makeSlice (36 : Nat) (Go.Value.int Go.IntKind.i64 (1048576 : Int)) (Go.Value.int
 Go.IntKind.i64 (1048576 : Int))) (Go.World.drew w') (Go.Value.slice x_50 x_51 x_52) w'_3 ∧ ∃ (x_53 : Option Go.Addr), ∃ (x_54 : Nat), ∃ (x_55 : Nat), ∃ (w' : Go.World), Go.Sx.RunsTo Go.Proofs.Try.prog
 (Go.Instr.makeSlice (36 : Nat) (Go.Value.int Go.IntKind.i64 (1048576 : Int)) (Go.Value.int Go.IntKind.i64 (1048576 : Int))) w'_3 (Go.Value.slice x_53 x_54 x_55) w' ∧ Go.Sx.CallsV Go.Proofs.Try.prog (17
 : Nat) #[Go.Value.pointer x, Go.Value.int Go.IntKind.i64 (1 : Int), Go.Value.slice x_53 x_54 x_55, Go.Value.slice x_50 x_51 x_52] w' fun (v : Go.Value) (w' : Go.World) => ∃ (x : Bool), ∃ (x_56 : Int),
 v = Go.Value.tuple #[Go.Value.bool x, Go.Value.int Go.IntKind.i64 x_56] ∧ J x_56 w' else ∃ (x_40 : Option Go.Addr), ∃ (x_41 : Nat), ∃ (x_42 : Nat), ∃ (w'_1 : Go.World), Go.Sx.RunsTo Go.Proofs.Try.prog
 (Go.Instr.makeSlice (36 : Nat) (Go.Value.int Go.IntKind.i64 (1048577 : Int)) (Go.Value.int Go.IntKind.i64 (1048577 : Int))) w' (Go.Value.slice x_40 x_41 x_42) w'_1 ∧ Go.Sx.CallsV Go.Proofs.Try.prog (17
 : Nat) #[Go.Value.pointer x, Go.Value.int Go.IntKind.i64 (1 : Int), Go.Value.slice x_40 x_41 x_42, Go.Value.slice Option.none (0 : Nat) (0 : Nat)] w'_1 fun (v : Go.Value) (w' : Go.World) => ∃ (x_43 :
 Bool), ∃ (x_44 : Int), v = Go.Value.tuple #[Go.Value.bool x_43, Go.Value.int Go.IntKind.i64 x_44] ∧ ∃ (x_45 : Option Go.Addr), ∃ (x_46 : Nat), ∃ (x_47 : Nat), ∃ (w'_2 : Go.World), Go.Sx.RunsTo
 Go.Proofs.Try.prog (Go.Instr.makeSlice (36 : Nat) (Go.Value.int Go.IntKind.i64 (1048577 : Int)) (Go.Value.int Go.IntKind.i64 (1048577 : Int))) w' (Go.Value.slice x_45 x_46 x_47) w'_2 ∧ Go.Sx.CallsV
 Go.Proofs.Try.prog (17 : Nat) #[Go.Value.pointer x, Go.Value.int Go.IntKind.i64 (1 : Int), Go.Value.slice Option.none (0 : Nat) (0 : Nat), Go.Value.slice x_45 x_46 x_47] w'_2 fun (v : Go.Value) (w' :
 Go.World) => ∃ (x_48 : Bool), ∃ (x_49 : Int), v = Go.Value.tuple #[Go.Value.bool x_48, Go.Value.int Go.IntKind.i64 x_49] ∧ ∃ (J : Int → Go.World → Prop), (∀ (x : Int) (w : Go.World), J x w →
 Go.Sx.CallsV Go.Proofs.Try.prog (31 : Nat) #[Go.Value.pointer x_2] w fun (v : Go.Value) (w' : Go.World) => ∃ (x : Option Go.Addr), v = Go.Value.pointer x ∧ K (Go.Value.bool Bool.false) w') ∧ (∃ (x_50 :
 Option Go.Addr), ∃ (x_51 : Nat), ∃ (x_52 : Nat), ∃ (w'_3 : Go.World), Go.Sx.RunsTo Go.Proofs.Try.prog (Go.Instr.makeSlice (36 : Nat) (Go.Value.int Go.IntKind.i64 (1048576 : Int)) (Go.Value.int
 Go.IntKind.i64 (1048576 : Int))) (Go.World.drew w') (Go.Value.slice x_50 x_51 x_52) w'_3 ∧ ∃ (x_53 : Option Go.Addr), ∃ (x_54 : Nat), ∃ (x_55 : Nat), ∃ (w' : Go.World), Go.Sx.RunsTo Go.Proofs.Try.prog
 (Go.Instr.makeSlice (36 : Nat) (Go.Value.int Go.IntKind.i64 (1048576 : Int)) (Go.Value.int Go.IntKind.i64 (1048576 : Int))) w'_3 (Go.Value.slice x_53 x_54 x_55) w' ∧ Go.Sx.CallsV Go.Proofs.Try.prog (17
 : Nat) #[Go.Value.pointer x, Go.Value.int Go.IntKind.i64 (1 : Int), Go.Value.slice x_50 x_51 x_52, Go.Value.slice x_53 x_54 x_55] w' fun (v : Go.Value) (w' : Go.World) => ∃ (x : Bool), ∃ (x_56 : Int),
 v = Go.Value.tuple #[Go.Value.bool x, Go.Value.int Go.IntKind.i64 x_56] ∧ J x_56 w') ∧ ∃ (x_50 : Option Go.Addr), ∃ (x_51 : Nat), ∃ (x_52 : Nat), ∃ (w'_3 : Go.World), Go.Sx.RunsTo Go.Proofs.Try.prog
 (Go.Instr.makeSlice (36 : Nat) (Go.Value.int Go.IntKind.i64 (1048576 : Int)) (Go.Value.int Go.IntKind.i64 (1048576 : Int))) (Go.World.drew w') (Go.Value.slice x_50 x_51 x_52) w'_3 ∧ ∃ (x_53 : Option
 Go.Addr), ∃ (x_54 : Nat), ∃ (x_55 : Nat), ∃ (w' : Go.World), Go.Sx.RunsTo Go.Proofs.Try.prog (Go.Instr.makeSlice (36 : Nat) (Go.Value.int Go.IntKind.i64 (1048576 : Int)) (Go.Value.int Go.IntKind.i64
 (1048576 : Int))) w'_3 (Go.Value.slice x_53 x_54 x_55) w' ∧ Go.Sx.CallsV Go.Proofs.Try.prog (17 : Nat) #[Go.Value.pointer x, Go.Value.int Go.IntKind.i64 (1 : Int), Go.Value.slice x_53 x_54 x_55,
 Go.Value.slice x_50 x_51 x_52] w' fun (v : Go.Value) (w' : Go.World) => ∃ (x : Bool), ∃ (x_56 : Int), v = Go.Value.tuple #[Go.Value.bool x, Go.Value.int Go.IntKind.i64 x_56] ∧ J x_56 w' else ∃ (x_40 :
 Option Go.Addr), ∃ (x_41 : Nat), ∃ (x_42 : Nat), ∃ (w'_1 : Go.World), Go.Sx.RunsTo Go.Proofs.Try.prog (Go.Instr.makeSlice (36 : Nat) (Go.Value.int Go.IntKind.i64 (1048577 : Int)) (Go.Value.int
 Go.IntKind.i64 (1048577 : Int))) w' (Go.Value.slice x_40 x_41 x_42) w'_1 ∧ Go.Sx.CallsV Go.Proofs.Try.prog (17 : Nat) #[Go.Value.pointer x, Go.Value.int Go.IntKind.i64 (1 : Int), Go.Value.slice x_40
 x_41 x_42, Go.Value.slice Option.none (0 : Nat) (0 : Nat)] w'_1 fun (v : Go.Value) (w' : Go.World) => ∃ (x_43 : Bool), ∃ (x_44 : Int), v = Go.Value.tuple #[Go.Value.bool x_43, Go.Value.int
 Go.IntKind.i64 x_44] ∧ ∃ (x_45 : Option Go.Addr), ∃ (x_46 : Nat), ∃ (x_47 : Nat), ∃ (w'_2 : Go.World), Go.Sx.RunsTo Go.Proofs.Try.prog (Go.Instr.makeSlice (36 : Nat) (Go.Value.int Go.IntKind.i64
 (1048577 : Int)) (Go.Value.int Go.IntKind.i64 (1048577 : Int))) w' (Go.Value.slice x_45 x_46 x_47) w'_2 ∧ Go.Sx.CallsV Go.Proofs.Try.prog (17 : Nat) #[Go.Value.pointer x, Go.Value.int Go.IntKind.i64 (1
 : Int), Go.Value.slice Option.none (0 : Nat) (0 : Nat), Go.Value.slice x_45 x_46 x_47] w'_2 fun (v : Go.Value) (w' : Go.World) => ∃ (x_48 : Bool), ∃ (x_49 : Int), v = Go.Value.tuple #[Go.Value.bool
 x_48, Go.Value.int Go.IntKind.i64 x_49] ∧ ∃ (J : Int → Go.World → Prop), (∀ (x : Int) (w : Go.World), J x w → Go.Sx.CallsV Go.Proofs.Try.prog (31 : Nat) #[Go.Value.pointer x_2] w fun (v : Go.Value) (w'
 : Go.World) => ∃ (x : Option Go.Addr), v = Go.Value.pointer x ∧ K (Go.Value.bool Bool.false) w') ∧ (∃ (x_50 : Option Go.Addr), ∃ (x_51 : Nat), ∃ (x_52 : Nat), ∃ (w'_3 : Go.World), Go.Sx.RunsTo
 Go.Proofs.Try.prog (Go.Instr.makeSlice (36 : Nat) (Go.Value.int Go.IntKind.i64 (1048576 : Int)) (Go.Value.int Go.IntKind.i64 (1048576 : Int))) (Go.World.drew w') (Go.Value.slice x_50 x_51 x_52) w'_3 ∧
 ∃ (x_53 : Option Go.Addr), ∃ (x_54 : Nat), ∃ (x_55 : Nat), ∃ (w' : Go.World), Go.Sx.RunsTo Go.Proofs.Try.prog (Go.Instr.makeSlice (36 : Nat) (Go.Value.int Go.IntKind.i64 (1048576 : Int)) (Go.Value.int
 Go.IntKind.i64 (1048576 : Int))) w'_3 (Go.Value.slice x_53 x_54 x_55) w' ∧ Go.Sx.CallsV Go.Proofs.Try.prog (17 : Nat) #[Go.Value.pointer x, Go.Value.int Go.IntKind.i64 (1 : Int), Go.Value.slice x_50
 x_51 x_52, Go.Value.slice x_53 x_54 x_55] w' fun (v : Go.Value) (w' : Go.World) => ∃ (x : Bool), ∃ (x_56 : Int), v = Go.Value.tuple #[Go.Value.bool x, Go.Value.int Go.IntKind.i64 x_56] ∧ J x_56 w') ∧ ∃
 (x_50 : Option Go.Addr), ∃ (x_51 : Nat), ∃ (x_52 : Nat), ∃ (w'_3 : Go.World), Go.Sx.RunsTo Go.Proofs.Try.prog (Go.Instr.makeSlice (36 : Nat) (Go.Value.int Go.IntKind.i64 (1048576 : Int)) (Go.Value.int
 Go.IntKind.i64 (1048576 : Int))) (Go.World.drew w') (Go.Value.slice x_50 x_51 x_52) w'_3 ∧ ∃ (x_53 : Option Go.Addr), ∃ (x_54 : Nat), ∃ (x_55 : Nat), ∃ (w' : Go.World), Go.Sx.RunsTo Go.Proofs.Try.prog
 (Go.Instr.makeSlice (36 : Nat) (Go.Value.int Go.IntKind.i64 (1048576 : Int)) (Go.Value.int Go.IntKind.i64 (1048576 : Int))) w'_3 (Go.Value.slice x_53 x_54 x_55) w' ∧ Go.Sx.CallsV Go.Proofs.Try.prog (17
 : Nat) #[Go.Value.pointer x, Go.Value.int Go.IntKind.i64 (1 : Int), Go.Value.slice x_53 x_54 x_55, Go.Value.slice x_50 x_51 x_52] w' fun (v : Go.Value) (w' : Go.World) => ∃ (x : Bool), ∃ (x_56 : Int),
 v = Go.Value.tuple #[Go.Value.bool x, Go.Value.int Go.IntKind.i64 x_56] ∧ J x_56 w' else ∃ (x_40 : Option Go.Addr), ∃ (x_41 : Nat), ∃ (x_42 : Nat), ∃ (w'_1 : Go.World), Go.Sx.RunsTo Go.Proofs.Try.prog
 (Go.Instr.makeSlice (36 : Nat) (Go.Value.int Go.IntKind.i64 (1048577 : Int)) (Go.Value.int Go.IntKind.i64 (1048577 : Int))) w' (Go.Value.slice x_40 x_41 x_42) w'_1 ∧ Go.Sx.CallsV Go.Proofs.Try.prog (17
 : Nat) #[Go.Value.pointer x, Go.Value.int Go.IntKind.i64 (1 : Int), Go.Value.slice x_40 x_41 x_42, Go.Value.slice Option.none (0 : Nat) (0 : Nat)] w'_1 fun (v : Go.Value) (w' : Go.World) => ∃ (x_43 :
 Bool), ∃ (x_44 : Int), v = Go.Value.tuple #[Go.Value.bool x_43, Go.Value.int Go.IntKind.i64 x_44] ∧ ∃ (x_45 : Option Go.Addr), ∃ (x_46 : Nat), ∃ (x_47 : Nat), ∃ (w'_2 : Go.World), Go.Sx.RunsTo
 Go.Proofs.Try.prog (Go.Instr.makeSlice (36 : Nat) (Go.Value.int Go.IntKind.i64 (1048577 : Int)) (Go.Value.int Go.IntKind.i64 (1048577 : Int))) w' (Go.Value.slice x_45 x_46 x_47) w'_2 ∧ Go.Sx.CallsV
 Go.Proofs.Try.prog (17 : Nat) #[Go.Value.pointer x, Go.Value.int Go.IntKind.i64 (1 : Int), Go.Value.slice Option.none (0 : Nat) (0 : Nat), Go.Value.slice x_45 x_46 x_47] w'_2 fun (v : Go.Value) (w' :
 Go.World) => ∃ (x_48 : Bool), ∃ (x_49 : Int), v = Go.Value.tuple #[Go.Value.bool x_48, Go.Value.int Go.IntKind.i64 x_49] ∧ ∃ (J : Int → Go.World → Prop), (∀ (x : Int) (w : Go.World), J x w →
 Go.Sx.CallsV Go.Proofs.Try.prog (31 : Nat) #[Go.Value.pointer x_2] w fun (v : Go.Value) (w' : Go.World) => ∃ (x : Option Go.Addr), v = Go.Value.pointer x ∧ K (Go.Value.bool Bool.false) w') ∧ (∃ (x_50 :
 Option Go.Addr), ∃ (x_51 : Nat), ∃ (x_52 : Nat), ∃ (w'_3 : Go.World), Go.Sx.RunsTo Go.Proofs.Try.prog (Go.Instr.makeSlice (36 : Nat) (Go.Value.int Go.IntKind.i64 (1048576 : Int)) (Go.Value.int
 Go.IntKind.i64 (1048576 : Int))) (Go.World.drew w') (Go.Value.slice x_50 x_51 x_52) w'_3 ∧ ∃ (x_53 : Option Go.Addr), ∃ (x_54 : Nat), ∃ (x_55 : Nat), ∃ (w' : Go.World), Go.Sx.RunsTo Go.Proofs.Try.prog
 (Go.Instr.makeSlice (36 : Nat) (Go.Value.int Go.IntKind.i64 (1048576 : Int)) (Go.Value.int Go.IntKind.i64 (1048576 : Int))) w'_3 (Go.Value.slice x_53 x_54 x_55) w' ∧ Go.Sx.CallsV Go.Proofs.Try.prog (17
 : Nat) #[Go.Value.pointer x, Go.Value.int Go.IntKind.i64 (1 : Int), Go.Value.slice x_50 x_51 x_52, Go.Value.slice x_53 x_54 x_55] w' fun (v : Go.Value) (w' : Go.World) => ∃ (x : Bool), ∃ (x_56 : Int),
 v = Go.Value.tuple #[Go.Value.bool x, Go.Value.int Go.IntKind.i64 x_56] ∧ J x_56 w') ∧ ∃ (x_50 : Option Go.Addr), ∃ (x_51 : Nat), ∃ (x_52 : Nat), ∃ (w'_3 : Go.World), Go.Sx.RunsTo Go.Proofs.Try.prog
 (Go.Instr.makeSlice (36 : Nat) (Go.Value.int Go.IntKind.i64 (1048576 : Int)) (Go.Value.int Go.IntKind.i64 (1048576 : Int))) (Go.World.drew w') (Go.Value.slice x_50 x_51 x_52) w'_3 ∧ ∃ (x_53 : Option
 Go.Addr), ∃ (x_54 : Nat), ∃ (x_55 : Nat), ∃ (w' : Go.World), Go.Sx.RunsTo Go.Proofs.Try.prog (Go.Instr.makeSlice (36 : Nat) (Go.Value.int Go.IntKind.i64 (1048576 : Int)) (Go.Value.int Go.IntKind.i64
 (1048576 : Int))) w'_3 (Go.Value.slice x_53 x_54 x_55) w' ∧ Go.Sx.CallsV Go.Proofs.Try.prog (17 : Nat) #[Go.Value.pointer x, Go.Value.int Go.IntKind.i64 (1 : Int), Go.Value.slice x_53 x_54 x_55,
 Go.Value.slice x_50 x_51 x_52] w' fun (v : Go.Value) (w' : Go.World) => ∃ (x : Bool), ∃ (x_56 : Int), v = Go.Value.tuple #[Go.Value.bool x, Go.Value.int Go.IntKind.i64 x_56] ∧ J x_56 w' else ∃ (x_40 :
 Option Go.Addr), ∃ (x_41 : Nat), ∃ (x_42 : Nat), ∃ (w'_1 : Go.World), Go.Sx.RunsTo Go.Proofs.Try.prog (Go.Instr.makeSlice (36 : Nat) (Go.Value.int Go.IntKind.i64 (1048577 : Int)) (Go.Value.int
 Go.IntKind.i64 (1048577 : Int))) w' (Go.Value.slice x_40 x_41 x_42) w'_1 ∧ Go.Sx.CallsV Go.Proofs.Try.prog (17 : Nat) #[Go.Value.pointer x, Go.Value.int Go.IntKind.i64 (1 : Int), Go.Value.slice x_40
 x_41 x_42, Go.Value.slice Option.none (0 : Nat) (0 : Nat)] w'_1 fun (v : Go.Value) (w' : Go.World) => ∃ (x_43 : Bool), ∃ (x_44 : Int), v = Go.Value.tuple #[Go.Value.bool x_43, Go.Value.int
 Go.IntKind.i64 x_44] ∧ ∃ (x_45 : Option Go.Addr), ∃ (x_46 : Nat), ∃ (x_47 : Nat), ∃ (w'_2 : Go.World), Go.Sx.RunsTo Go.Proofs.Try.prog (Go.Instr.makeSlice (36 : Nat) (Go.Value.int Go.IntKind.i64
 (1048577 : Int)) (Go.Value.int Go.IntKind.i64 (1048577 : Int))) w' (Go.Value.slice x_45 x_46 x_47) w'_2 ∧ Go.Sx.CallsV Go.Proofs.Try.prog (17 : Nat) #[Go.Value.pointer x, Go.Value.int Go.IntKind.i64 (1
 : Int), Go.Value.slice Option.none (0 : Nat) (0 : Nat), Go.Value.slice x_45 x_46 x_47] w'_2 fun (v : Go.Value) (w' : Go.World) => ∃ (x_48 : Bool), ∃ (x_49 : Int), v = Go.Value.tuple #[Go.Value.bool
 x_48, Go.Value.int Go.IntKind.i64 x_49] ∧ ∃ (J : Int → Go.World → Prop), (∀ (x : Int) (w : Go.World), J x w → Go.Sx.CallsV Go.Proofs.Try.prog (31 : Nat) #[Go.Value.pointer x_2] w fun (v : Go.Value) (w'
 : Go.World) => ∃ (x : Option Go.Addr), v = Go.Value.pointer x ∧ K (Go.Value.bool Bool.false) w') ∧ (∃ (x_50 : Option Go.Addr), ∃ (x_51 : Nat), ∃ (x_52 : Nat), ∃ (w'_3 : Go.World), Go.Sx.RunsTo
 Go.Proofs.Try.prog (Go.Instr.makeSlice (36 : Nat) (Go.Value.int Go.IntKind.i64 (1048576 : Int)) (Go.Value.int Go.IntKind.i64 (1048576 : Int))) (Go.World.drew w') (Go.Value.slice x_50 x_51 x_52) w'_3 ∧
 ∃ (x_53 : Option Go.Addr), ∃ (x_54 : Nat), ∃ (x_55 : Nat), ∃ (w' : Go.World), Go.Sx.RunsTo Go.Proofs.Try.prog (Go.Instr.makeSlice (36 : Nat) (Go.Value.int Go.IntKind.i64 (1048576 : Int)) (Go.Value.int
 Go.IntKind.i64 (1048576 : Int))) w'_3 (Go.Value.slice x_53 x_54 x_55) w' ∧ Go.Sx.CallsV Go.Proofs.Try.prog (17 : Nat) #[Go.Value.pointer x, Go.Value.int Go.IntKind.i64 (1 : Int), Go.Value.slice x_50
 x_51 x_52, Go.Value.slice x_53 x_54 x_55] w' fun (v : Go.Value) (w' : Go.World) => ∃ (x : Bool), ∃ (x_56 : Int), v = Go.Value.tuple #[Go.Value.bool x, Go.Value.int Go.IntKind.i64 x_56] ∧ J x_56 w') ∧ ∃
 (x_50 : Option Go.Addr), ∃ (x_51 : Nat), ∃ (x_52 : Nat), ∃ (w'_3 : Go.World), Go.Sx.RunsTo Go.Proofs.Try.prog (Go.Instr.makeSlice (36 : Nat) (Go.Value.int Go.IntKind.i64 (1048576 : Int)) (Go.Value.int
 Go.IntKind.i64 (1048576 : Int))) (Go.World.drew w') (Go.Value.slice x_50 x_51 x_52) w'_3 ∧ ∃ (x_53 : Option Go.Addr), ∃ (x_54 : Nat), ∃ (x_55 : Nat), ∃ (w' : Go.World), Go.Sx.RunsTo Go.Proofs.Try.prog
 (Go.Instr.makeSlice (36 : Nat) (Go.Value.int Go.IntKind.i64 (1048576 : Int)) (Go.Value.int Go.IntKind.i64 (1048576 : Int))) w'_3 (Go.Value.slice x_53 x_54 x_55) w' ∧ Go.Sx.CallsV Go.Proofs.Try.prog (17
 : Nat) #[Go.Value.pointer x, Go.Value.int Go.IntKind.i64 (1 : Int), Go.Value.slice x_53 x_54 x_55, Go.Value.slice x_50 x_51 x_52] w' fun (v : Go.Value) (w' : Go.World) => ∃ (x : Bool), ∃ (x_56 : Int),
 v = Go.Value.tuple #[Go.Value.bool x, Go.Value.int Go.IntKind.i64 x_56] ∧ J x_56 w' else ∃ (x_40 : Option Go.Addr), ∃ (x_41 : Nat), ∃ (x_42 : Nat), ∃ (w'_1 : Go.World), Go.Sx.RunsTo Go.Proofs.Try.prog
 (Go.Instr.makeSlice (36 : Nat) (Go.Value.int Go.IntKind.i64 (1048577 : Int)) (Go.Value.int Go.IntKind.i64 (1048577 : Int))) w' (Go.Value.slice x_40 x_41 x_42) w'_1 ∧ Go.Sx.CallsV Go.Proofs.Try.prog (17
 : Nat) #[Go.Value.pointer x, Go.Value.int Go.IntKind.i64 (1 : Int), Go.Value.slice x_40 x_41 x_42, Go.Value.slice Option.none (0 : Nat) (0 : Nat)] w'_1 fun (v : Go.Value) (w' : Go.World) => ∃ (x_43 :
 Bool), ∃ (x_44 : Int), v = Go.Value.tuple #[Go.Value.bool x_43, Go.Value.int Go.IntKind.i64 x_44] ∧ ∃ (x_45 : Option Go.Addr), ∃ (x_46 : Nat), ∃ (x_47 : Nat), ∃ (w'_2 : Go.World), Go.Sx.RunsTo
 Go.Proofs.Try.prog (Go.Instr.makeSlice (36 : Nat) (Go.Value.int Go.IntKind.i64 (1048577 : Int)) (Go.Value.int Go.IntKind.i64 (1048577 : Int))) w' (Go.Value.slice x_45 x_46 x_47) w'_2 ∧ Go.Sx.CallsV
 Go.Proofs.Try.prog (17 : Nat) #[Go.Value.pointer x, Go.Value.int Go.IntKind.i64 (1 : Int), Go.Value.slice Option.none (0 : Nat) (0 : Nat), Go.Value.slice x_45 x_46 x_47] w'_2 fun (v : Go.Value) (w' :
 Go.World) => ∃ (x_48 : Bool), ∃ (x_49 : Int), v = Go.Value.tuple #[Go.Value.bool x_48, Go.Value.int Go.IntKind.i64 x_49] ∧ ∃ (J : Int → Go.World → Prop), (∀ (x : Int) (w : Go.World), J x w →
 Go.Sx.CallsV Go.Proofs.Try.prog (31 : Nat) #[Go.Value.pointer x_2] w fun (v : Go.Value) (w' : Go.World) => ∃ (x : Option Go.Addr), v = Go.Value.pointer x ∧ K (Go.Value.bool Bool.false) w') ∧ (∃ (x_50 :
 Option Go.Addr), ∃ (x_51 : Nat), ∃ (x_52 : Nat), ∃ (w'_3 : Go.World), Go.Sx.RunsTo Go.Proofs.Try.prog (Go.Instr.makeSlice (36 : Nat) (Go.Value.int Go.IntKind.i64 (1048576 : Int)) (Go.Value.int
 Go.IntKind.i64 (1048576 : Int))) (Go.World.drew w') (Go.Value.slice x_50 x_51 x_52) w'_3 ∧ ∃ (x_53 : Option Go.Addr), ∃ (x_54 : Nat), ∃ (x_55 : Nat), ∃ (w' : Go.World), Go.Sx.RunsTo Go.Proofs.Try.prog
 (Go.Instr.makeSlice (36 : Nat) (Go.Value.int Go.IntKind.i64 (1048576 : Int)) (Go.Value.int Go.IntKind.i64 (1048576 : Int))) w'_3 (Go.Value.slice x_53 x_54 x_55) w' ∧ Go.Sx.CallsV Go.Proofs.Try.prog (17
 : Nat) #[Go.Value.pointer x, Go.Value.int Go.IntKind.i64 (1 : Int), Go.Value.slice x_50 x_51 x_52, Go.Value.slice x_53 x_54 x_55] w' fun (v : Go.Value) (w' : Go.World) => ∃ (x : Bool), ∃ (x_56 : Int),
 v = Go.Value.tuple #[Go.Value.bool x, Go.Value.int Go.IntKind.i64 x_56] ∧ J x_56 w') ∧ ∃ (x_50 : Option Go.Addr), ∃ (x_51 : Nat), ∃ (x_52 : Nat), ∃ (w'_3 : Go.World), Go.Sx.RunsTo Go.Proofs.Try.prog
 (Go.Instr.makeSlice (36 : Nat) (Go.Value.int Go.IntKind.i64 (1048576 : Int)) (Go.Value.int Go.IntKind.i64 (1048576 : Int))) (Go.World.drew w') (Go.Value.slice x_50 x_51 x_52) w'_3 ∧ ∃ (x_53 : Option
 Go.Addr), ∃ (x_54 : Nat), ∃ (x_55 : Nat), ∃ (w' : Go.World), Go.Sx.RunsTo Go.Proofs.Try.prog (Go.Instr.makeSlice (36 : Nat) (Go.Value.int Go.IntKind.i64 (1048576 : Int)) (Go.Value.int Go.IntKind.i64
 (1048576 : Int))) w'_3 (Go.Value.slice x_53 x_54 x_55) w' ∧ Go.Sx.CallsV Go.Proofs.Try.prog (17 : Nat) #[Go.Value.pointer x, Go.Value.int Go.IntKind.i64 (1 : Int), Go.Value.slice x_53 x_54 x_55,
 Go.Value.slice x_50 x_51 x_52] w' fun (v : Go.Value) (w' : Go.World) => ∃ (x : Bool), ∃ (x_56 : Int), v = Go.Value.tuple #[Go.Value.bool x, Go.Value.int Go.IntKind.i64 x_56] ∧ J x_56 w' else ∃ (x_40 :
 Option Go.Addr), ∃ (x_41 : Nat), ∃ (x_42 : Nat), ∃ (w'_1 : Go.World), Go.Sx.RunsTo Go.Proofs.Try.prog (Go.Instr.makeSlice (36 : Nat) (Go.Value.int Go.IntKind.i64 (1048577 : Int)) (Go.Value.int
 Go.IntKind.i64 (1048577 : Int))) w' (Go.Value.slice x_40 x_41 x_42) w'_1 ∧ Go.Sx.CallsV Go.Proofs.Try.prog (17 : Nat) #[Go.Value.pointer x, Go.Value.int Go.IntKind.i64 (1 : Int), Go.Value.slice x_40
 x_41 x_42, Go.Value.slice Option.none (0 : Nat) (0 : Nat)] w'_1 fun (v : Go.Value) (w' : Go.World) => ∃ (x_43 : Bool), ∃ (x_44 : Int), v = Go.Value.tuple #[Go.Value.bool x_43, Go.Value.int
 Go.IntKind.i64 x_44] ∧ ∃ (x_45 : Option Go.Addr), ∃ (x_46 : Nat), ∃ (x_47 : Nat), ∃ (w'_2 : Go.World), Go.Sx.RunsTo Go.Proofs.Try.prog (Go.Instr.makeSlice (36 : Nat) (Go.Value.int Go.IntKind.i64
 (1048577 : Int)) (Go.Value.int Go.IntKind.i64 (1048577 : Int))) w' (Go.Value.slice x_45 x_46 x_47) w'_2 ∧ Go.Sx.CallsV Go.Proofs.Try.prog (17 : Nat) #[Go.Value.pointer x, Go.Value.int Go.IntKind.i64 (1
 : Int), Go.Value.slice Option.none (0 : Nat) (0 : Nat), Go.Value.slice x_45 x_46 x_47] w'_2 fun (v : Go.Value) (w' : Go.World) => ∃ (x_48 : Bool), ∃ (x_49 : Int), v = Go.Value.tuple #[Go.Value.bool
 x_48, Go.Value.int Go.IntKind.i64 x_49] ∧ ∃ (J : Int → Go.World → Prop), (∀ (x : Int) (w : Go.World), J x w → Go.Sx.CallsV Go.Proofs.Try.prog (31 : Nat) #[Go.Value.pointer x_2] w fun (v : Go.Value) (w'
 : Go.World) => ∃ (x : Option Go.Addr), v = Go.Value.pointer x ∧ K (Go.Value.bool Bool.false) w') ∧ (∃ (x_50 : Option Go.Addr), ∃ (x_51 : Nat), ∃ (x_52 : Nat), ∃ (w'_3 : Go.World), Go.Sx.RunsTo
 Go.Proofs.Try.prog (Go.Instr.makeSlice (36 : Nat) (Go.Value.int Go.IntKind.i64 (1048576 : Int)) (Go.Value.int Go.IntKind.i64 (1048576 : Int))) (Go.World.drew w') (Go.Value.slice x_50 x_51 x_52) w'_3 ∧
 ∃ (x_53 : Option Go.Addr), ∃ (x_54 : Nat), ∃ (x_55 : Nat), ∃ (w' : Go.World), Go.Sx.RunsTo Go.Proofs.Try.prog (Go.Instr.makeSlice (36 : Nat) (Go.Value.int Go.IntKind.i64 (1048576 : Int)) (Go.Value.int
 Go.IntKind.i64 (1048576 : Int))) w'_3 (Go.Value.slice x_53 x_54 x_55) w' ∧ Go.Sx.CallsV Go.Proofs.Try.prog (17 : Nat) #[Go.Value.pointer x, Go.Value.int Go.IntKind.i64 (1 : Int), Go.Value.slice x_50
 x_51 x_52, Go.Value.slice x_53 x_54 x_55] w' fun (v : Go.Value) (w' : Go.World) => ∃ (x : Bool), ∃ (x_56 : Int), v = Go.Value.tuple #[Go.Value.bool x, Go.Value.int Go.IntKind.i64 x_56] ∧ J x_56 w') ∧ ∃
 (x_50 : Option Go.Addr), ∃ (x_51 : Nat), ∃ (x_52 : Nat), ∃ (w'_3 : Go.World), Go.Sx.RunsTo Go.Proofs.Try.prog (Go.Instr.makeSlice (36 : Nat) (Go.Value.int Go.IntKind.i64 (1048576 : Int)) (Go.Value.int
 Go.IntKind.i64 (1048576 : Int))) (Go.World.drew w') (Go.Value.slice x_50 x_51 x_52) w'_3 ∧ ∃ (x_53 : Option Go.Addr), ∃ (x_54 : Nat), ∃ (x_55 : Nat), ∃ (w' : Go.World), Go.Sx.RunsTo Go.Proofs.Try.prog
 (Go.Instr.makeSlice (36 : Nat) (Go.Value.int Go.IntKind.i64 (1048576 : Int)) (Go.Value.int Go.IntKind.i64 (1048576 : Int))) w'_3 (Go.Value.slice x_53 x_54 x_55) w' ∧ Go.Sx.CallsV Go.Proofs.Try.prog (17
 : Nat) #[Go.Value.pointer x, Go.Value.int Go.IntKind.i64 (1 : Int), Go.Value.slice x_53 x_54 x_55, Go.Value.slice x_50 x_51 x_52] w' fun (v : Go.Value) (w' : Go.World) => ∃ (x : Bool), ∃ (x_56 : Int),
 v = Go.Value.tuple #[Go.Value.bool x, Go.Value.int Go.IntKind.i64 x_56] ∧ J x_56 w' else ∃ (x_40 : Option Go.Addr), ∃ (x_41 : Nat), ∃ (x_42 : Nat), ∃ (w'_1 : Go.World), Go.Sx.RunsTo Go.Proofs.Try.prog
 (Go.Instr.makeSlice (36 : Nat) (Go.Value.int Go.IntKind.i64 (1048577 : Int)) (Go.Value.int Go.IntKind.i64 (1048577 : Int))) w' (Go.Value.slice x_40 x_41 x_42) w'_1 ∧ Go.Sx.CallsV Go.Proofs.Try.prog (17
 : Nat) #[Go.Value.pointer x, Go.Value.int Go.IntKind.i64 (1 : Int), Go.Value.slice x_40 x_41 x_42, Go.Value.slice Option.none (0 : Nat) (0 : Nat)] w'_1 fun (v : Go.Value) (w' : Go.World) => ∃ (x_43 :
 Bool), ∃ (x_44 : Int), v = Go.Value.tuple #[Go.Value.bool x_43, Go.Value.int Go.IntKind.i64 x_44] ∧ ∃ (x_45 : Option Go.Addr), ∃ (x_46 : Nat), ∃ (x_47 : Nat), ∃ (w'_2 : Go.World), Go.Sx.RunsTo
 Go.Proofs.Try.prog (Go.Instr.makeSlice (36 : Nat) (Go.Value.int Go.IntKind.i64 (1048577 : Int)) (Go.Value.int Go.IntKind.i64 (1048577 : Int))) w' (Go.Value.slice x_45 x_46 x_47) w'_2 ∧ Go.Sx.CallsV
 Go.Proofs.Try.prog (17 : Nat) #[Go.Value.pointer x, Go.Value.int Go.IntKind.i64 (1 : Int), Go.Value.slice Option.none (0 : Nat) (0 : Nat), Go.Value.slice x_45 x_46 x_47] w'_2 fun (v : Go.Value) (w' :
 Go.World) => ∃ (x_48 : Bool), ∃ (x_49 : Int), v = Go.Value.tuple #[Go.Value.bool x_48, Go.Value.int Go.IntKind.i64 x_49] ∧ ∃ (J : Int → Go.World → Prop), (∀ (x : Int) (w : Go.World), J x w →
 Go.Sx.CallsV Go.Proofs.Try.prog (31 : Nat) #[Go.Value.pointer x_2] w fun (v : Go.Value) (w' : Go.World) => ∃ (x : Option Go.Addr), v = Go.Value.pointer x ∧ K (Go.Value.bool Bool.false) w') ∧ (∃ (x_50 :
 Option Go.Addr), ∃ (x_51 : Nat), ∃ (x_52 : Nat), ∃ (w'_3 : Go.World), Go.Sx.RunsTo Go.Proofs.Try.prog (Go.Instr.makeSlice (36 : Nat) (Go.Value.int Go.IntKind.i64 (1048576 : Int)) (Go.Value.int
 Go.IntKind.i64 (1048576 : Int))) (Go.World.drew w') (Go.Value.slice x_50 x_51 x_52) w'_3 ∧ ∃ (x_53 : Option Go.Addr), ∃ (x_54 : Nat), ∃ (x_55 : Nat), ∃ (w' : Go.World), Go.Sx.RunsTo Go.Proofs.Try.prog
 (Go.Instr.makeSlice (36 : Nat) (Go.Value.int Go.IntKind.i64 (1048576 : Int)) (Go.Value.int Go.IntKind.i64 (1048576 : Int))) w'_3 (Go.Value.slice x_53 x_54 x_55) w' ∧ Go.Sx.CallsV Go.Proofs.Try.prog (17
 : Nat) #[Go.Value.pointer x, Go.Value.int Go.IntKind.i64 (1 : Int), Go.Value.slice x_50 x_51 x_52, Go.Value.slice x_53 x_54 x_55] w' fun (v : Go.Value) (w' : Go.World) => ∃ (x : Bool), ∃ (x_56 : Int),
 v = Go.Value.tuple #[Go.Value.bool x, Go.Value.int Go.IntKind.i64 x_56] ∧ J x_56 w') ∧ ∃ (x_50 : Option Go.Addr), ∃ (x_51 : Nat), ∃ (x_52 : Nat), ∃ (w'_3 : Go.World), Go.Sx.RunsTo Go.Proofs.Try.prog
 (Go.Instr.makeSlice (36 : Nat) (Go.Value.int Go.IntKind.i64 (1048576 : Int)) (Go.Value.int Go.IntKind.i64 (1048576 : Int))) (Go.World.drew w') (Go.Value.slice x_50 x_51 x_52) w'_3 ∧ ∃ (x_53 : Option
 Go.Addr), ∃ (x_54 : Nat), ∃ (x_55 : Nat), ∃ (w' : Go.World), Go.Sx.RunsTo Go.Proofs.Try.prog (Go.Instr.makeSlice (36 : Nat) (Go.Value.int Go.IntKind.i64 (1048576 : Int)) (Go.Value.int Go.IntKind.i64
 (1048576 : Int))) w'_3 (Go.Value.slice x_53 x_54 x_55) w' ∧ Go.Sx.CallsV Go.Proofs.Try.prog (17 : Nat) #[Go.Value.pointer x, Go.Value.int Go.IntKind.i64 (1 : Int), Go.Value.slice x_53 x_54 x_55,
 Go.Value.slice x_50 x_51 x_52] w' fun (v : Go.Value) (w' : Go.World) => ∃ (x : Bool), ∃ (x_56 : Int), v = Go.Value.tuple #[Go.Value.bool x, Go.Value.int Go.IntKind.i64 x_56] ∧ J x_56 w' else ∃ (x_40 :
 Option Go.Addr), ∃ (x_41 : Nat), ∃ (x_42 : Nat), ∃ (w'_1 : Go.World), Go.Sx.RunsTo Go.Proofs.Try.prog (Go.Instr.makeSlice (36 : Nat) (Go.Value.int Go.IntKind.i64 (1048577 : Int)) (Go.Value.int
 Go.IntKind.i64 (1048577 : Int))) w' (Go.Value.slice x_40 x_41 x_42) w'_1 ∧ Go.Sx.CallsV Go.Proofs.Try.prog (17 : Nat) #[Go.Value.pointer x, Go.Value.int Go.IntKind.i64 (1 : Int), Go.Value.slice x_40
 x_41 x_42, Go.Value.slice Option.none (0 : Nat) (0 : Nat)] w'_1 fun (v : Go.Value) (w' : Go.World) => ∃ (x_43 : Bool), ∃ (x_44 : Int), v = Go.Value.tuple #[Go.Value.bool x_43, Go.Value.int
 Go.IntKind.i64 x_44] ∧ ∃ (x_45 : Option Go.Addr), ∃ (x_46 : Nat), ∃ (x_47 : Nat), ∃ (w'_2 : Go.World), Go.Sx.RunsTo Go.Proofs.Try.prog (Go.Instr.makeSlice (36 : Nat) (Go.Value.int Go.IntKind.i64
 (1048577 : Int)) (Go.Value.int Go.IntKind.i64 (1048577 : Int))) w' (Go.Value.slice x_45 x_46 x_47) w'_2 ∧ Go.Sx.CallsV Go.Proofs.Try.prog (17 : Nat) #[Go.Value.pointer x, Go.Value.int Go.IntKind.i64 (1
 : Int), Go.Value.slice Option.none (0 : Nat) (0 : Nat), Go.Value.slice x_45 x_46 x_47] w'_2 fun (v : Go.Value) (w' : Go.World) => ∃ (x_48 : Bool), ∃ (x_49 : Int), v = Go.Value.tuple #[Go.Value.bool
 x_48, Go.Value.int Go.IntKind.i64 x_49] ∧ ∃ (J : Int → Go.World → Prop), (∀ (x : Int) (w : Go.World), J x w → Go.Sx.CallsV Go.Proofs.Try.prog (31 : Nat) #[Go.Value.pointer x_2] w fun (v : Go.Value) (w'
 : Go.World) => ∃ (x : Option Go.Addr), v = Go.Value.pointer x ∧ K (Go.Value.bool Bool.false) w') ∧ (∃ (x_50 : Option Go.Addr), ∃ (x_51 : Nat), ∃ (x_52 : Nat), ∃ (w'_3 : Go.World), Go.Sx.RunsTo
 Go.Proofs.Try.prog (Go.Instr.makeSlice (36 : Nat) (Go.Value.int Go.IntKind.i64 (1048576 : Int)) (Go.Value.int Go.IntKind.i64 (1048576 : Int))) (Go.World.drew w') (Go.Value.slice x_50 x_51 x_52) w'_3 ∧
 ∃ (x_53 : Option Go.Addr), ∃ (x_54 : Nat), ∃ (x_55 : Nat), ∃ (w' : Go.World), Go.Sx.RunsTo Go.Proofs.Try.prog (Go.Instr.makeSlice (36 : Nat) (Go.Value.int Go.IntKind.i64 (1048576 : Int)) (Go.Value.int
 Go.IntKind.i64 (1048576 : Int))) w'_3 (Go.Value.slice x_53 x_54 x_55) w' ∧ Go.Sx.CallsV Go.Proofs.Try.prog (17 : Nat) #[Go.Value.pointer x, Go.Value.int Go.IntKind.i64 (1 : Int), Go.Value.slice x_50
 x_51 x_52, Go.Value.slice x_53 x_54 x_55] w' fun (v : Go.Value) (w' : Go.World) => ∃ (x : Bool), ∃ (x_56 : Int), v = Go.Value.tuple #[Go.Value.bool x, Go.Value.int Go.IntKind.i64 x_56] ∧ J x_56 w') ∧ ∃
 (x_50 : Option Go.Addr), ∃ (x_51 : Nat), ∃ (x_52 : Nat), ∃ (w'_3 : Go.World), Go.Sx.RunsTo Go.Proofs.Try.prog (Go.Instr.makeSlice (36 : Nat) (Go.Value.int Go.IntKind.i64 (1048576 : Int)) (Go.Value.int
 Go.IntKind.i64 (1048576 : Int))) (Go.World.drew w') (Go.Value.slice x_50 x_51 x_52) w'_3 ∧ ∃ (x_53 : Option Go.Addr), ∃ (x_54 : Nat), ∃ (x_55 : Nat), ∃ (w' : Go.World), Go.Sx.RunsTo Go.Proofs.Try.prog
 (Go.Instr.makeSlice (36 : Nat) (Go.Value.int Go.IntKind.i64 (1048576 : Int)) (Go.Value.int Go.IntKind.i64 (1048576 : Int))) w'_3 (Go.Value.slice x_53 x_54 x_55) w' ∧ Go.Sx.CallsV Go.Proofs.Try.prog (17
 : Nat) #[Go.Value.pointer x, Go.Value.int Go.IntKind.i64 (1 : Int), Go.Value.slice x_53 x_54 x_55, Go.Value.slice x_50 x_51 x_52] w' fun (v : Go.Value) (w' : Go.World) => ∃ (x : Bool), ∃ (x_56 : Int),
 v = Go.Value.tuple #[Go.Value.bool x, Go.Value.int Go.IntKind.i64 x_56] ∧ J x_56 w' else ∃ (x_40 : Option Go.Addr), ∃ (x_41 : Nat), ∃ (x_42 : Nat), ∃ (w'_1 : Go.World), Go.Sx.RunsTo Go.Proofs.Try.prog
 (Go.Instr.makeSlice (36 : Nat) (Go.Value.int Go.IntKind.i64 (1048577 : Int)) (Go.Value.int Go.IntKind.i64 (1048577 : Int))) w' (Go.Value.slice x_40 x_41 x_42) w'_1 ∧ Go.Sx.CallsV Go.Proofs.Try.prog (17
 : Nat) #[Go.Value.pointer x, Go.Value.int Go.IntKind.i64 (1 : Int), Go.Value.slice x_40 x_41 x_42, Go.Value.slice Option.none (0 : Nat) (0 : Nat)] w'_1 fun (v : Go.Value) (w' : Go.World) => ∃ (x_43 :
 Bool), ∃ (x_44 : Int), v = Go.Value.tuple #[Go.Value.bool x_43, Go.Value.int Go.IntKind.i64 x_44] ∧ ∃ (x_45 : Option Go.Addr), ∃ (x_46 : Nat), ∃ (x_47 : Nat), ∃ (w'_2 : Go.World), Go.Sx.RunsTo
 Go.Proofs.Try.prog (Go.Instr.makeSlice (36 : Nat) (Go.Value.int Go.IntKind.i64 (1048577 : Int)) (Go.Value.int Go.IntKind.i64 (1048577 : Int))) w' (Go.Value.slice x_45 x_46 x_47) w'_2 ∧ Go.Sx.CallsV
 Go.Proofs.Try.prog (17 : Nat) #[Go.Value.pointer x, Go.Value.int Go.IntKind.i64 (1 : Int), Go.Value.slice Option.none (0 : Nat) (0 : Nat), Go.Value.slice x_45 x_46 x_47] w'_2 fun (v : Go.Value) (w' :
 Go.World) => ∃ (x_48 : Bool), ∃ (x_49 : Int), v = Go.Value.tuple #[Go.Value.bool x_48, Go.Value.int Go.IntKind.i64 x_49] ∧ ∃ (J : Int → Go.World → Prop), (∀ (x : Int) (w : Go.World), J x w →
 Go.Sx.CallsV Go.Proofs.Try.prog (31 : Nat) #[Go.Value.pointer x_2] w fun (v : Go.Value) (w' : Go.World) => ∃ (x : Option Go.Addr), v = Go.Value.pointer x ∧ K (Go.Value.bool Bool.false) w') ∧ (∃ (x_50 :
 Option Go.Addr), ∃ (x_51 : Nat), ∃ (x_52 : Nat), ∃ (w'_3 : Go.World), Go.Sx.RunsTo Go.Proofs.Try.prog (Go.Instr.makeSlice (36 : Nat) (Go.Value.int Go.IntKind.i64 (1048576 : Int)) (Go.Value.int
 Go.IntKind.i64 (1048576 : Int))) (Go.World.drew w') (Go.Value.slice x_50 x_51 x_52) w'_3 ∧ ∃ (x_53 : Option Go.Addr), ∃ (x_54 : Nat), ∃ (x_55 : Nat), ∃ (w' : Go.World), Go.Sx.RunsTo Go.Proofs.Try.prog
 (Go.Instr.makeSlice (36 : Nat) (Go.Value.int Go.IntKind.i64 (1048576 : Int)) (Go.Value.int Go.IntKind.i64 (1048576 : Int))) w'_3 (Go.Value.slice x_53 x_54 x_55) w' ∧ Go.Sx.CallsV Go.Proofs.Try.prog (17
 : Nat) #[Go.Value.pointer x, Go.Value.int Go.IntKind.i64 (1 : Int), Go.Value.slice x_50 x_51 x_52, Go.Value.slice x_53 x_54 x_55] w' fun (v : Go.Value) (w' : Go.World) => ∃ (x : Bool), ∃ (x_56 : Int),
 v = Go.Value.tuple #[Go.Value.bool x, Go.Value.int Go.IntKind.i64 x_56] ∧ J x_56 w') ∧ ∃ (x_50 : Option Go.Addr), ∃ (x_51 : Nat), ∃ (x_52 : Nat), ∃ (w'_3 : Go.World), Go.Sx.RunsTo Go.Proofs.Try.prog
 (Go.Instr.makeSlice (36 : Nat) (Go.Value.int Go.IntKind.i64 (1048576 : Int)) (Go.Value.int Go.IntKind.i64 (1048576 : Int))) (Go.World.drew w') (Go.Value.slice x_50 x_51 x_52) w'_3 ∧ ∃ (x_53 : Option
 Go.Addr), ∃ (x_54 : Nat), ∃ (x_55 : Nat), ∃ (w' : Go.World), Go.Sx.RunsTo Go.Proofs.Try.prog (Go.Instr.makeSlice (36 : Nat) (Go.Value.int Go.IntKind.i64 (1048576 : Int)) (Go.Value.int Go.IntKind.i64
 (1048576 : Int))) w'_3 (Go.Value.slice x_53 x_54 x_55) w' ∧ Go.Sx.CallsV Go.Proofs.Try.prog (17 : Nat) #[Go.Value.pointer x, Go.Value.int Go.IntKind.i64 (1 : Int), Go.Value.slice x_53 x_54 x_55,
 Go.Value.slice x_50 x_51 x_52] w' fun (v : Go.Value) (w' : Go.World) => ∃ (x : Bool), ∃ (x_56 : Int), v = Go.Value.tuple #[Go.Value.bool x, Go.Value.int Go.IntKind.i64 x_56] ∧ J x_56 w'
theorem cardindexlaw04_TreeNumbers.eq  (w : World) (K : Value → World → Prop) : cardindexlaw04_TreeNumbers.W  w K = fnW Try.prog Try.f9 (.named (.seq .auto (.seq (.seq .auto (.block (.loop [(48, .one (.int .i64))] .auto))) (.seq .auto (.seq .auto (.seq .auto (.seq (.seq .auto (.block (.loop [(9, .one (.int .i64))] .auto))) (.seq .auto (.seq .auto (.seq .auto (.seq .auto (.seq .auto (.seq .auto (.seq .auto (.seq .auto (.seq .auto (.seq .auto (.seq .auto (.seq .auto (.seq .auto (.join [(39, .one (.int .i64))] .auto .auto))))))))))))))))))))) [] w K := by kernel_rfl
theorem cardindexlaw04_TreeNumbers.calls (ok : Okay Try.prog)  {w : World} {K : Value → World → Prop} (h : cardindexlaw04_TreeNumbers.W  w K) : CallsV Try.prog 9 #[] w K :=
  fnW_calls ok Try.func9 (an := (.named (.seq .auto (.seq (.seq .auto (.block (.loop [(48, .one (.int .i64))] .auto))) (.seq .auto (.seq .auto (.seq .auto (.seq (.seq .auto (.block (.loop [(9, .one (.int .i64))] .auto))) (.seq .auto (.seq .auto (.seq .auto (.seq .auto (.seq .auto (.seq .auto (.seq .auto (.seq .auto (.seq .auto (.seq .auto (.seq .auto (.seq .auto (.seq .auto (.join [(39, .one (.int .i64))] .auto .auto)))))))))))))))))))))) (args := []) (by rw [← cardindexlaw04_TreeNumbers.eq]; exact h)
end Go.Proofs.Ytadlhdiejmilmaa
/- Layer 4: TreeNumbers. -/
set_option linter.unusedVariables false
set_option linter.unusedSimpArgs false
namespace Go.Proofs.Ytadlhdiejmilmaa
open Go Go.Sx T4
/-- an arena's trees, made since a world -/
structure HsI (w0 : World) (R M : Nat → Prop) (u : World) (g : Nat) (A : Ar) (Ds : List Tr) : Prop where
  hs : Hs w0 R M u g A
  inv : Inv A Ds
theorem HsI.ext {w0 : World} {R M : Nat → Prop} {u u' : World} {g : Nat} {A : Ar} {Ds : List Tr} (h : HsI w0 R M u g A Ds) (e : Ext u u') : HsI w0 R M u' g A Ds := ⟨h.hs.ext e, h.inv⟩
theorem HsI.chg {w0 : World} {R M R' M' : Nat → Prop} {u u' : World} {g : Nat} {A A' : Ar} {Ds Ds' : List Tr} (h : HsI w0 R M u g A Ds) (h' : Ar1 R' M' u' g A') (c : Chg R M u R' M' u') (hI : Inv A' Ds') : HsI w0 R' M' u' g A' Ds' := ⟨h.hs.chg h' c, hI⟩
def lq : Nat → Key
  | 0 => [97]
  | 1 => [98]
  | 2 => [99]
  | _ => [100]
def esq : Nat → Es
  | 0 => []
  | j + 1 => insE (lq j) [] (esq j)
theorem one_deep {A : Ar} {d : Tr} (h : Inv A [d]) (hm : A.most = 1) : d.h = 1 ∧ A.nodes = 1 := by
  have h1 := (Inv.at_ (D1 := []) (D2 := []) h).tree.height
  have h2 := h.acc.nodes
  have h3 := h.nodes
  simp at h2
  omega
set_option maxRecDepth 100000 in
set_option maxHeartbeats 1000000 in
theorem full_spec (w : World) : CallsV Try.prog 34 #[] w fun r w' => r = .bool true ∧ Ext w w' := by
  refine cardindexlaw04_full.calls okay ?_
  unfold cardindexlaw04_full.W
  refine (sNew w 4 1 (by decide) (by decide) (by decide) (by decide)).mono ?_
  rintro _ w1 ⟨g, R, M, rfl, _, _, _, hcr⟩
  refine ⟨_, _, rfl, hcr.mono ?_⟩
  rintro _ w2 ⟨rfl, R2, M2, h2, e2, hR2⟩
  obtain ⟨_, i0, ps0, hI⟩ := (sole_new (fan := 4) (most := 1) (by decide) (by decide) (by decide) (by decide)).2
  have H2 : HsI w R2 M2 w2 g (mkT (A0 4 1)) [⟨1, i0, 1, [], ps0⟩] := ⟨⟨h2, e2, hR2⟩, hI⟩
  have hm2 : (mkT (A0 4 1)).most = 1 := rfl
  have hf2 : (mkT (A0 4 1)).fan = 4 := rfl
  have hl2 : (mkT (A0 4 1)).last = 1 := rfl
  generalize mkT (A0 4 1) = A2 at *
  refine ⟨_, _, rfl, (dFull hI (.inl (by have := (one_deep hI hm2).2; omega)) (by omega) H2.hs.ar).mono ?_⟩
  rintro _ w3 ⟨rfl, e3⟩
  have H3 := H2.ext e3
  refine ⟨_, _, rfl, brn (fun h => absurd rfl h) fun _ => brn (fun h => absurd rfl h) fun _ => brn (fun h => absurd rfl h) fun _ => ?_⟩
  intro gs w4 f4
  have H4 := H3.ext f4.ext
  have hgs : ¬ R2 gs := fun h => by have := H3.hs.ar.lt gs h; have := f4.ge; omega
  refine ⟨fun x u => ∃ j : Nat, j ≤ 4 ∧ x = (j : Int) ∧ ∃ A d R M, HsI w R M u g A [d] ∧ A.fan = 4 ∧ A.most = 1 ∧ d.r = 1 ∧ d.es = esq j ∧ Blk u gs [.string ⟨#[97]⟩, .string ⟨#[98]⟩, .string ⟨#[99]⟩, .string ⟨#[100]⟩] ∧ ¬ R gs, fun x _ => (4 - x).toNat, ⟨0, by omega, rfl, _, _, _, _, H4, hf2, hm2, rfl, rfl, f4.blk, hgs⟩, ?_⟩
  rintro _ u ⟨j, hj, rfl, A, d, R', M', HA, hf, hm, hdr, hde, hb, hr⟩
  obtain ⟨hh, hn⟩ := one_deep HA.inv hm
  refine brd (fun hlt => ?_) (fun hge => ?_)
  · have hj4 : j = 0 ∨ j = 1 ∨ j = 2 ∨ j = 3 := by omega
    have hc : u.cell? ⟨gs, j, none⟩ = some (.string ⟨(lq j).toArray⟩) := by
      rcases hj4 with rfl | rfl | rfl | rfl <;> exact hb.cell0 rfl
    have hkl : (lq j).length ≤ 1048576 := by
      rcases hj4 with rfl | rfl | rfl | rfl <;> decide
    have hel : (esq j).length < 4 := by
      rcases hj4 with rfl | rfl | rfl | rfl <;> decide
    refine ⟨_, rfl, ⟨by omega, by omega⟩, _, by rw [Int.toNat_natCast, add_new, Nat.zero_add, Nat.mul_one]; exact hc, (b_spec u (lq j) hkl).mono ?_⟩
    rintro _ u1 ⟨kA, kc, rfl, ok, e1, _⟩
    have HA1 := HA.ext e1
    obtain ⟨A', d', full, hfe, hr', hI', hs', _, hno, hP⟩ := dPut0 (D1 := []) (D2 := []) HA1.inv (key := lq j) (val := []) hkl (by decide)
    rw [putFull_leaf (D1 := []) (D2 := []) HA1.inv _ hh] at hfe
    have hfull : full = false := by
      rw [hfe, hf, hm, hn, hde]
      have : ¬ (4 ≤ (esq j).length ∧ 1 < 1 + 2 ∨ 1 < 1) := by omega
      rw [decide_eq_false this, Bool.and_false]
    subst hfull
    rw [hdr] at hP
    refine ⟨_, _, _, rfl, (hP HA1.hs.ar ok.imm0 (Imm.nil KB NoB u1 none) kc 0).mono ?_⟩
    rintro _ u2 ⟨rfl, R'', M'', h', c⟩
    obtain ⟨hb', hr''⟩ := Chg.blk HA1.hs.ar c (hb.ext e1) hr
    rw [wi _ (by omega) (by omega)]
    exact ⟨_, _, rfl, brn (fun h => absurd rfl h) fun _ => ⟨⟨j + 1, by omega, by omega, A', d', R'', M'', HA1.chg h' c hI', hs'.fan.trans hf, hs'.most.trans hm, hr'.trans hdr, by rw [hno rfl, hde]; rfl, hb', hr''⟩, by dsimp only; omega⟩⟩
  · obtain rfl : j = 4 := by omega
    -- e: refused
    refine (b_spec u [101] (by decide)).mono ?_
    rintro _ u1 ⟨kA, kc, rfl, ok, e1, _⟩
    have HA := HA.ext e1
    obtain ⟨A', d', full, hfe, hr', hI', hs', hfu, hno, hP⟩ := dPut0 (D1 := []) (D2 := []) HA.inv (key := [101]) (val := []) (by decide) (by decide)
    rw [putFull_leaf (D1 := []) (D2 := []) HA.inv _ hh, hf, hm, hn, hde, show (!inE [101] (esq 4) && decide (4 ≤ (esq 4).length ∧ 1 < 1 + 2 ∨ 1 < 1)) = true by decide] at hfe
    subst hfe
    obtain ⟨rfl, rfl, _, _⟩ := hfu rfl
    rw [hdr, hde] at hP
    refine ⟨_, _, _, rfl, (hP HA.hs.ar ok.imm0 (Imm.nil KB NoB u1 none) kc 0).mono ?_⟩
    rintro _ u2 ⟨rfl, R2, M2, h2, c2⟩
    have HA := HA.chg h2 c2 hI'
    -- d: there
    refine ⟨_, _, rfl, (b_spec u2 [100] (by decide)).mono ?_⟩
    rintro _ u3 ⟨kA3, kc3, rfl, ok3, e3, _⟩
    refine ⟨_, _, _, rfl, (b_spec u3 [109, 111, 114, 101] (by decide)).mono ?_⟩
    rintro _ u4 ⟨kA4, kc4, rfl, ok4, e4, _⟩
    have HA := (HA.ext e3).ext e4
    obtain ⟨A5, d5, full, hfe, hr5, hI5, hs5, _, hno5, hP⟩ := dPut0 (D1 := []) (D2 := []) HA.inv (key := [100]) (val := [109, 111, 114, 101]) (by decide) (by decide)
    rw [putFull_leaf (D1 := []) (D2 := []) HA.inv _ hh, hf, hm, hn, hde, show (!inE [100] (esq 4) && decide (4 ≤ (esq 4).length ∧ 1 < 1 + 2 ∨ 1 < 1)) = false by decide] at hfe
    subst hfe
    rw [hdr, hde] at hP
    have hno5 := hno5 rfl
    rw [hde] at hno5
    refine ⟨_, _, _, rfl, (hP HA.hs.ar (ok3.ext e4).imm0 ok4.imm0 kc3 kc4).mono ?_⟩
    rintro _ u5 ⟨rfl, R5, M5, h5, c5⟩
    have HA := HA.chg h5 c5 hI5
    have hm5 := hs5.most.trans hm
    have hf5 := hs5.fan.trans hf
    obtain ⟨hh5, hn5⟩ := one_deep hI5 hm5
    -- a: goes
    refine ⟨_, _, rfl, (b_spec u5 [97] (by decide)).mono ?_⟩
    rintro _ u6 ⟨kA6, kc6, rfl, ok6, e6, _⟩
    have HA := HA.ext e6
    obtain ⟨A7, d7, hr7, hI7, hs7, he7, hP⟩ := dDel (D1 := []) (D2 := []) HA.inv [97]
    rw [hr5.trans hdr, hno5] at hP
    rw [hno5] at he7
    refine ⟨_, _, _, rfl, (hP HA.hs.ar ok6.imm0 kc6).mono ?_⟩
    rintro _ u7 ⟨rfl, R7, M7, h7, c7⟩
    have HA := HA.chg h7 c7 hI7
    have hm7 := hs7.most.trans hm5
    have hf7 := hs7.fan.trans hf5
    obtain ⟨hh7, hn7⟩ := one_deep hI7 hm7
    -- e: has room
    refine ⟨_, _, rfl, (b_spec u7 [101] (by decide)).mono ?_⟩
    rintro _ u8 ⟨kA8, kc8, rfl, ok8, e8, _⟩
    have HA := HA.ext e8
    obtain ⟨A9, d9, full, hfe, hr9, hI9, hs9, _, hno9, hP⟩ := dPut0 (D1 := []) (D2 := []) HA.inv (key := [101]) (val := []) (by decide) (by decide)
    rw [putFull_leaf (D1 := []) (D2 := []) HA.inv _ hh7, hf7, hm7, hn7, he7, show (!inE [101] (delE [97] (insE [100] [109, 111, 114, 101] (esq 4))) && decide (4 ≤ (delE [97] (insE [100] [109, 111, 114, 101] (esq 4))).length ∧ 1 < 1 + 2 ∨ 1 < 1)) = false by decide] at hfe
    subst hfe
    rw [hr7.trans (hr5.trans hdr), he7] at hP
    have hno9 := hno9 rfl
    rw [he7] at hno9
    refine ⟨_, _, _, rfl, (hP HA.hs.ar ok8.imm0 (Imm.nil KB NoB u8 none) kc8 0).mono ?_⟩
    rintro _ u9 ⟨rfl, R9, M9, h9, c9⟩
    have HA := HA.chg h9 c9 hI9
    obtain ⟨o9, _⟩ := Inv.one (D1 := []) (D2 := []) HA.inv
    rw [hr9.trans (hr7.trans (hr5.trans hdr)), hno9] at o9
    refine ⟨_, _, rfl, brnb (fun _ => brd (fun _ => ?_) fun h => absurd rfl h) fun h => absurd h (by decide)⟩
    refine br (fun _ => ?_) (fun h => absurd h (by decide))
    refine brd (fun _ => ?_) fun h => absurd rfl h
    refine br (fun _ => ?_) (fun h => absurd h (by decide))
    refine brd (fun _ => brd (fun _ => ?_) fun h => absurd rfl h) fun h => absurd rfl h
    refine (oLen HA.hs.ar o9).mono ?_
    rintro _ v1 ⟨rfl, e1⟩
    have HA := HA.ext e1
    refine ⟨_, rfl, brd (fun _ => ?_) fun h => absurd (by decide) h⟩
    refine (dCheck HA.inv HA.hs.ar).mono ?_
    rintro _ v2 ⟨rfl, e2⟩
    exact ⟨_, rfl, rfl, (HA.ext e2).hs.e⟩
end Go.Proofs.Ytadlhdiejmilmaa
/- Layer 4: TreeNumbers. -/
set_option linter.unusedVariables false
set_option linter.unusedSimpArgs false
namespace Go.Proofs.Ytadlhdiejmilmaa
open Go Go.Sx T4
def P5 : List Value := [.int .i64 3, .int .i64 1, .int .i64 65, .int .i64 1, .int .i64 4, .int .i64 0, .int .i64 4, .int .i64 65537, .int .i64 (-4), .int .i64 10]
/-- two arenas, apart -/
structure Two (w0 : World) (R M R2 M2 : Nat → Prop) (u : World) (g g2 : Nat) (A B : Ar) (Ds : List Tr) : Prop where
  a : HsI w0 R M u g A Ds
  b : HsI w0 R2 M2 u g2 B []
  ne : g2 ≠ g
  off : ∀ k, R2 k → ¬ R k
theorem Two.ext {w0 : World} {R M R2 M2 : Nat → Prop} {u u' : World} {g g2 : Nat} {A B : Ar} {Ds : List Tr} (h : Two w0 R M R2 M2 u g g2 A B Ds) (e : Ext u u') : Two w0 R M R2 M2 u' g g2 A B Ds := ⟨h.a.ext e, h.b.ext e, h.ne, h.off⟩
theorem Two.chg {w0 : World} {R M R2 M2 R' M' : Nat → Prop} {u u' : World} {g g2 : Nat} {A A' B : Ar} {Ds Ds' : List Tr} (h : Two w0 R M R2 M2 u g g2 A B Ds) (h' : Ar1 R' M' u' g A') (c : Chg R M u R' M' u') (hI : Inv A' Ds') : Two w0 R' M' R2 M2 u' g g2 A' B Ds' := by
  have ha := h.a.chg h' c hI
  refine ⟨ha, ⟨⟨h.b.hs.ar.frame c.fr fun k _ hm hr => h.off k hr (h.a.hs.ar.mr k hm), ha.hs.e, h.b.hs.r⟩, h.b.inv⟩, h.ne, fun k hk hk' => ?_⟩
  rcases c.r' k hk' with h1 | h1
  · exact h.off k hk h1
  · have := h.b.hs.ar.lt k hk; omega
theorem split7 {D : List Tr} (h : D.map (fun d => d.r) = (List.range 1000).map fun i => ((i : Nat) : Int) + 1) : ∃ D1 d D2, D = D1 ++ d :: D2 ∧ d.r = 7 ∧ ∃ d1 D1', D1 = d1 :: D1' ∧ d1.r = 1 := by
  have hl : D.length = 1000 := by have := congrArg List.length h; simpa using this
  have g : ∀ i (hi : i < D.length), (D[i]).r = ((i : Nat) : Int) + 1 := fun i hi => by
    have := congrArg (fun l : List Int => l[i]?) h
    simp only [List.getElem?_map, List.getElem?_eq_getElem hi, Option.map_some, List.getElem?_range (show i < 1000 by omega)] at this
    exact Option.some.inj this
  refine ⟨D.take 6, D[6], D.drop 7, ?_, by rw [g 6 (by omega)]; rfl, D[0], (D.take 6).drop 1, ?_, by rw [g 0 (by omega)]; rfl⟩
  · conv => lhs; rw [← List.take_append_drop 6 D]
    rw [List.drop_eq_getElem_cons (show 6 < D.length by omega)]
  · rw [List.drop_take, List.take_eq_take_iff.2 rfl]
    conv => lhs; rw [show D = D[0] :: D.drop 1 by have := List.drop_eq_getElem_cons (show 0 < D.length by omega); simpa using this]
    rfl
theorem sum_ones : ∀ (l : List Tr), (∀ d ∈ l, d.ps.length = 1) → (l.map fun d => d.ps.length).sum = l.length
  | [], _ => rfl
  | x :: l, h => by
    have := sum_ones l fun d hd => h d (by simp [hd])
    have := h x (by simp)
    simp only [List.map_cons, List.sum_cons, List.length_cons]; omega
theorem zeroKey {u : World} {X : Option Addr} {n : Nat} (h : Go.Sx.Own u 1 X n n (List.replicate n (.int .u8 0))) : Imm KB NoB u X (List.replicate n 0) := by
  have h2 : OwnB u X n (List.replicate n 0) := by
    unfold OwnB
    rw [List.length_replicate, show (List.replicate n (0 : UInt8)).map u8 = List.replicate n (.int .u8 0) from List.map_replicate]
    exact h
  exact h2.imm0
set_option maxRecDepth 100000 in
set_option maxHeartbeats 2000000 in
theorem TreeNumbers_spec (w : World) : CallsV Try.prog 9 #[] w fun r w' => r = .bool true ∧ Ext w w' := by
  refine cardindexlaw04_TreeNumbers.calls okay ?_
  unfold cardindexlaw04_TreeNumbers.W
  intro g0 w1 f1
  have hb1 : Blk w1 g0 P5 := f1.blk
  refine ⟨fun x u => ∃ j : Nat, j ≤ 5 ∧ x = (j : Int) ∧ Ext w1 u, fun x _ => (5 - x).toNat, ⟨0, by omega, rfl, .refl _ _⟩, ?_⟩
  rintro _ u ⟨j, hj, rfl, eu⟩
  refine brd (fun hlt => ?_) (fun _ => ?_)
  · have hj5 : j = 0 ∨ j = 1 ∨ j = 2 ∨ j = 3 ∨ j = 4 := by omega
    obtain ⟨a, b, ha, hb, bad⟩ : ∃ a b : Int, P5[0 + j * 2 + 0]? = some (.int .i64 a) ∧ P5[0 + j * 2 + 1]? = some (.int .i64 b) ∧ (a < 4 ∨ 64 < a ∨ b < 1 ∨ 65536 < b) := by
      rcases hj5 with rfl | rfl | rfl | rfl | rfl
      · exact ⟨3, 1, rfl, rfl, by decide⟩
      · exact ⟨65, 1, rfl, rfl, by decide⟩
      · exact ⟨4, 0, rfl, rfl, by decide⟩
      · exact ⟨4, 65537, rfl, rfl, by decide⟩
      · exact ⟨-4, 10, rfl, rfl, by decide⟩
    have hbu := hb1.ext eu
    refine ⟨_, rfl, ⟨by omega, by omega⟩, a, by rw [Int.toNat_natCast]; exact hbu.cell' ha, b, by rw [Int.toNat_natCast]; exact hbu.cell' hb, ?_⟩
    intro g2 u2 f2
    refine ⟨f2.blk.stOK (o := 0) [.int .i64 a, .int .i64 b] 0 (by simp), fun u3 hu3 => ?_⟩
    have hb3 : Blk u3 g2 [.int .i64 a, .int .i64 b] := by rw [hu3]; exact Blk.setAll (o := 0) [.int .i64 a, .int .i64 b] 0 f2.blk
    have e3 : Ext w1 u3 := by rw [hu3]; exact (eu.trans' f2.ext).setAll (Nat.le_trans eu.size f2.ge) _ _
    refine ⟨⟨by decide, by decide⟩, a, hb3.cell rfl, ⟨by decide, by decide⟩, b, hb3.cell rfl, (New_bad u3 a b bad).same ⟨_, _, rfl, brnb (fun h => by cases h) fun _ => brn (fun h => absurd rfl h) fun _ => ?_⟩⟩
    rw [wi _ (by omega) (by omega)]
    exact ⟨⟨j + 1, by omega, by omega, e3⟩, by dsimp only; omega⟩
  · have ew : Ext w u := f1.ext.trans' eu
    refine (New_spec u 64 65536 (by decide) (by decide) (by decide) (by decide)).mono ?_
    rintro _ w2 ⟨g, R, M, rfl, h2, e2, hR2⟩
    refine ⟨_, _, rfl, (New_spec w2 4 10 (by decide) (by decide) (by decide) (by decide)).mono ?_⟩
    rintro _ w3 ⟨g2, R2, M2, rfl, h3, e3, hR3⟩
    have I1 := (sole_new (fan := 64) (most := 65536) (by decide) (by decide) (by decide) (by decide)).1
    have I2 := (sole_new (fan := 4) (most := 10) (by decide) (by decide) (by decide) (by decide)).1
    have hgne : g2 ≠ g := by
      obtain ⟨_, hb⟩ := h2.blkG
      have hg2 : R2 g2 := by obtain ⟨_, _, _, _, _, h⟩ := h3; exact h.mr _ h.mg
      have := hR3 g2 hg2
      have := hb.lt
      omega
    have T0 : Two w R M R2 M2 w3 g g2 (A0 64 65536) (A0 4 10) [] := by
      refine ⟨⟨⟨h2.ext e3, (ew.trans' e2).trans' e3, fun k hk => Nat.le_trans ew.size (hR2 k hk)⟩, I1⟩, ⟨⟨h3, (ew.trans' e2).trans' e3, fun k hk => ?_⟩, I2⟩, hgne, fun k hk hk' => ?_⟩
      · have := hR3 k hk; have := ew.size; have := e2.size; omega
      · have := hR3 k hk; have := h2.lt k hk'; omega
    have hB : (A0 4 10).fan = 4 ∧ (A0 4 10).most = 10 := ⟨rfl, rfl⟩
    generalize hBe : A0 4 10 = B at *
    have hA64 : (A0 64 65536).most = 65536 ∧ (A0 64 65536).last = 0 ∧ (A0 64 65536).fan = 64 := ⟨rfl, rfl, rfl⟩
    generalize A0 64 65536 = A0' at *
    refine ⟨_, _, rfl, brn (fun h => absurd rfl h) fun _ => brn (fun h => absurd rfl h) fun _ => ?_⟩
    refine ⟨fun x u => ∃ j : Nat, j ≤ 1000 ∧ x = (j : Int) + 1 ∧ ∃ A D R M, Two w R M R2 M2 u g g2 A B D ∧ A.most = 65536 ∧ A.last = j ∧ D.map (fun d => d.r) = (List.range j).map (fun i => ((i : Nat) : Int) + 1) ∧ ∀ d ∈ D, d.ps.length = 1 ∧ d.es = [] ∧ d.h = 1, fun x _ => (1001 - x).toNat, ⟨0, by omega, rfl, A0', [], R, M, T0, hA64.1, hA64.2.1, rfl, fun d hd => by cases hd⟩, ?_⟩
    rintro _ u ⟨j, hj, rfl, A, D, R, M, T, hm, hl, hD, hd⟩
    have hDl : D.length = j := by have := congrArg List.length hD; simpa using this
    have hn := T.a.inv.nodesE
    rw [sum_ones D fun d h => (hd d h).1] at hn
    refine brd (fun hle => ?_) (fun hgt => ?_)
    · obtain ⟨A', i, hI', hf', hm', hl', hC⟩ := dCreate T.a.inv (by omega) (by omega) (by omega)
      refine (hC T.a.hs.ar).mono ?_
      rintro _ u' ⟨rfl, R', M', h', c⟩
      have T' := T.chg h' c hI'
      refine ⟨_, _, rfl, brn (fun h => absurd (by rw [hl]; omega) h) fun _ => brn (fun h => absurd rfl h) fun _ => ?_⟩
      rw [wi _ (by omega) (by omega)]
      refine ⟨⟨j + 1, by omega, by omega, A', _, R', M', T', hm'.trans hm, hl'.trans (by rw [hl]), ?_, ?_⟩, by dsimp only; omega⟩
      · rw [List.map_append, hD, List.range_succ, List.map_append, hl]; simp
      · intro d h
        rcases List.mem_append.1 h with h | h
        · exact hd d h
        · simp at h; subst h; exact ⟨rfl, rfl, rfl⟩
    · obtain rfl : j = 1000 := by omega
      obtain ⟨D1, d7, D2, rfl, h7, d1, D1', rfl, h1⟩ := split7 hD
      clear hgt hj
      refine (dFull T.a.inv (.inr (by omega)) (by omega) T.a.hs.ar).mono ?_
      rintro _ u1 ⟨rfl, e1⟩
      have T := T.ext e1
      obtain ⟨A2, hI2, hs2, hn2, hDr⟩ := dDrop T.a.inv
      rw [h7] at hDr
      refine ⟨_, _, rfl, (hDr T.a.hs.ar).mono ?_⟩
      rintro _ u2 ⟨rfl, R2', M2', h2', c2⟩
      have T2 := T.chg h2' c2 hI2
      have hfan : 0 < A2.fan := by have := hI2.f1; omega
      have miss : ∀ d ∈ d1 :: D1' ++ D2, d.r ≠ 7 := by
        intro d hd0 he
        exact nd_mid T.a.inv.nd d hd0 (by rw [he, h7])
      refine ⟨_, rfl, (Drop_none T2.a.hs.ar hfan (hI2.miss miss)).same ⟨_, rfl, ?_⟩⟩
      have hd2 : ∀ d ∈ d1 :: D1' ++ D2, d.ps.length = 1 ∧ d.es = [] ∧ d.h = 1 := fun d h => hd d (by
        rcases List.mem_append.1 h with h | h
        · exact List.mem_append_left _ h
        · exact List.mem_append_right _ (List.mem_cons_of_mem _ h))
      have hl2 : A2.last = 1000 := hs2.last.trans hl
      have hm2 : A2.most = 65536 := hs2.most.trans hm
      have hlen2 : (d1 :: D1' ++ D2).length = 999 := by
        have h5 : (d1 :: D1' ++ d7 :: D2).length = 1000 := hDl
        simp only [List.length_append, List.length_cons] at h5 ⊢; omega
      have hn2' := hI2.nodesE
      rw [sum_ones _ fun d h => (hd2 d h).1, hlen2] at hn2'
      obtain ⟨A3, i3, hI3, hf3, hm3, hl3, hC3⟩ := dCreate hI2 (by omega) (by omega) (by omega)
      rw [hl2] at hl3 hI3
      refine (hC3 T2.a.hs.ar).mono ?_
      rintro _ u3 ⟨hv3, R3, M3, h3', c3⟩
      subst hv3
      have T3 := T2.chg h3' c3 hI3
      rw [hl2]
      have miss3 : ∀ d ∈ (d1 :: D1' ++ D2) ++ [⟨((1000 + 1 : Nat) : Int), i3, 1, [], [i3]⟩], d.r ≠ 7 := by
        intro d hd0
        rcases List.mem_append.1 hd0 with h | h
        · exact miss d h
        · simp at h; subst h; simp
      have r7 := hI3.miss miss3
      have hfan3 : 0 < A3.fan := by have := hI3.f1; omega
      have hI3' : Inv A3 ([] ++ d1 :: (D1' ++ D2 ++ [⟨((1000 + 1 : Nat) : Int), i3, 1, [], [i3]⟩])) := by simpa using hI3
      obtain ⟨o1, hdp⟩ := Inv.one hI3'
      have hd1 := hd2 d1 (by simp)
      rw [h1, hd1.2.1] at o1
      rw [h1, hd1.2.2] at hdp
      have hn3 := hI3.nodesE
      rw [sum_ones _ (fun d h => by
        rcases List.mem_append.1 h with h | h
        · exact (hd2 d h).1
        · simp at h; subst h; rfl), List.length_append, hlen2] at hn3
      have hn3 : A3.nodes = 1000 := hn3
      have hm3' : A3.most = 65536 := hm3.trans hm2
      refine ⟨_, _, rfl, (Put_none T3.a.hs.ar hfan3 r7 none none 0 0 0 0).same ⟨_, _, rfl, (Delete_none T3.a.hs.ar hfan3 r7 none 0 0).same ⟨_, _, rfl, (Get_none T3.a.hs.ar hfan3 r7 none 0 0).same ⟨_, _, _, _, rfl, (After_none T3.a.hs.ar hfan3 r7 none 0 0 true).same ⟨_, _, _, _, _, _, _, rfl, (Before_none T3.a.hs.ar hfan3 r7 none 0 0 true).same ⟨_, _, _, _, _, _, _, rfl, (Last_none T3.a.hs.ar hfan3 r7).same ⟨_, _, _, _, _, _, _, rfl, ?_⟩⟩⟩⟩⟩⟩⟩
      refine brd (fun _ => brd (fun _ => brd (fun _ => brd (fun _ => brd (fun _ => brd (fun _ => brd (fun _ => ?_) fun h => absurd rfl h) fun h => absurd rfl h) fun h => absurd rfl h) fun h => absurd rfl h) fun h => absurd rfl h) fun h => absurd rfl h) fun h => absurd rfl h
      refine brnb (fun _ => brnb (fun _ => brnb (fun _ => brnb (fun _ => ?_) fun h => by cases h) fun h => by cases h) fun h => by cases h) fun h => by cases h
      refine (Len_none T3.a.hs.ar hfan3 r7).mono ?_
      rintro _ u4 ⟨rfl, e4⟩
      have T4' := T3.ext e4
      refine ⟨_, rfl, (Deep_none T4'.a.hs.ar hfan3 r7).same ⟨_, rfl, brd (fun _ => ?_) fun h => absurd (by decide) h⟩⟩
      refine (oDeep T4'.a.hs.ar o1).mono ?_
      rintro _ u5 ⟨rfl, e5⟩
      have T5 := T4'.ext e5
      refine ⟨_, rfl, brd (fun _ => ?_) fun h => absurd (by rw [hdp]; rfl) h⟩
      refine (dNodes T5.a.inv T5.a.hs.ar).mono ?_
      rintro _ _ ⟨rfl, rfl⟩
      have T5 := T5.ext (Fr.drew NoB u5)
      obtain ⟨i1, _, _, hr1, _⟩ := o1.ex
      obtain ⟨u6, hr6, ho6, e6⟩ := make_own slB rfl u5.drew 1048577 (by decide) (by decide) .i64 .i64
      have T6 := T5.ext e6
      refine ⟨_, rfl, _, _, _, u6, hr6, (Put_long T6.a.hs.ar hfan3 hr1 _ _ _ _ _ _ (.inl (by decide))).same ⟨_, _, rfl, ?_⟩⟩
      obtain ⟨u7, hr7, ho7, e7⟩ := make_own slB rfl u6 1048577 (by decide) (by decide) .i64 .i64
      have T7 := T6.ext e7
      refine ⟨_, _, _, u7, hr7, (Put_long T7.a.hs.ar hfan3 hr1 _ _ _ _ _ _ (.inr (by decide))).same ⟨_, _, rfl, ?_⟩⟩
      have T7 := T7.ext (Fr.drew NoB u7)
      have put : ∀ {u : World} {X Y : Option Addr}, Two w R3 M3 R2 M2 u g g2 A3 B ((d1 :: D1' ++ D2) ++ [⟨((1000 + 1 : Nat) : Int), i3, 1, [], [i3]⟩]) → Go.Sx.Own u 1 X 1048576 1048576 (List.replicate 1048576 (.int .u8 0)) → Go.Sx.Own u 1 Y 1048576 1048576 (List.replicate 1048576 (.int .u8 0)) →
          CallsV Try.prog 17 #[.pointer (some ⟨g, 0, none⟩), .int .i64 1, .slice X 1048576 1048576, .slice Y 1048576 1048576] u fun v w' => ∃ x x_60, v = .tuple #[.bool x, .int .i64 x_60] ∧ (x_60 = 0 ∧ ∃ A R M D, Two w R M R2 M2 w' g g2 A B D) := by
        intro u X Y T hX hY
        have hI3'' : Inv A3 ([] ++ d1 :: (D1' ++ D2 ++ [⟨((1000 + 1 : Nat) : Int), i3, 1, [], [i3]⟩])) := hI3'
        obtain ⟨A4, d4, full, hr4, hI4, hs4, hfu, _, hP⟩ := dPut hI3'' (key := List.replicate 1048576 0) (val := List.replicate 1048576 0) (by rw [List.length_replicate]; decide) (by rw [List.length_replicate]; decide)
        have : full = false := by
          cases full with
          | false => rfl
          | true => have := (hfu rfl).2.2.2; rw [hd1.2.2] at this; omega
        subst this
        rw [h1] at hP
        have hP' := hP T.a.hs.ar (zeroKey hX) (zeroKey hY) 1048576 1048576
        rw [List.length_replicate] at hP'
        refine hP'.mono ?_
        rintro _ u' ⟨rfl, R', M', h', c⟩
        exact ⟨_, _, rfl, rfl, A4, R', M', _, T.chg h' c hI4⟩
      refine ⟨fun x u => x = 0 ∧ ∃ A R M D, Two w R M R2 M2 u g g2 A B D, ?_, ?_, ?_⟩
      · rintro _ u ⟨rfl, A, R, M, D, T⟩
        refine (dSave T.b.inv T.b.hs.ar).mono ?_
        rintro _ v1 ⟨sb, R4, rfl, h4, c4, e4, hS⟩
        have T1 := T.ext e4
        have hf := T.a.inv.f1
        have hb4 : Inv B [] := T.b.inv
        have hfb := hb4.f1
        refine ⟨_, rfl, brd (fun _ => brd (fun _ => brd (fun _ => brd (fun _ => ?_) fun h => absurd rfl h) fun h => absurd rfl h) fun h => absurd rfl h) fun h => absurd (by rw [hn3]; rfl) h⟩
        obtain ⟨_, _, _, _, hbs⟩ := hS.blk
        obtain ⟨_, hbg⟩ := h4.blkG
        refine (Load_bad T1.a.hs.ar (by omega) hbs (.inr ⟨g2, _, rfl, T1.ne, hbg⟩)).same ⟨_, rfl, brd (fun _ => ?_) fun h => absurd rfl h⟩
        refine (Load_nil T1.a.hs.ar (by omega)).same ⟨_, rfl, brd (fun _ => ?_) fun h => absurd rfl h⟩
        intro g5 v2 f5
        have T2 := T1.ext f5.ext
        refine (Load_bad T2.a.hs.ar (by omega) f5.blk (.inl rfl)).same ⟨_, rfl, brd (fun _ => ?_) fun h => absurd rfl h⟩
        have hS2 := hS.keep (Ext.om f5.ext R4 M2)
        refine (dLoad hb4 hb4 rfl rfl (h4.ext f5.ext) hS2).mono ?_
        rintro _ v3 ⟨rfl, R5, M5, h5, c5⟩
        have hx : Ext w v3 := ((⟨h4.ext f5.ext, T2.a.hs.e, fun k hk => by
          rcases c4.r' k hk with h | h
          · exact T.b.hs.r k h
          · exact Nat.le_trans T.a.hs.e.size h⟩ : Hs w R4 M2 v2 g2 B).chg h5 c5).e
        refine ⟨_, rfl, brd (fun _ => ?_) fun h => absurd rfl h⟩
        refine (full_spec v3).mono ?_
        rintro _ v4 ⟨rfl, e6⟩
        refine ⟨_, rfl, (awake_spec v4).mono ?_⟩
        rintro _ v5 ⟨rfl, e7⟩
        exact ⟨_, rfl, rfl, (hx.trans' e6).trans' e7⟩
      · obtain ⟨v1, hr1, ho1, e1⟩ := make_own slB rfl u7.drew 1048576 (by decide) (by decide) .i64 .i64
        obtain ⟨v2, hr2, ho2, e2⟩ := make_own slB rfl v1 1048576 (by decide) (by decide) .i64 .i64
        exact ⟨_, _, _, v1, hr1, _, _, _, v2, hr2, put ((T7.ext e1).ext e2) (ho1.keep e2 fun _ _ h => h) ho2⟩
      · obtain ⟨v1, hr1, ho1, e1⟩ := make_own slB rfl u7.drew 1048576 (by decide) (by decide) .i64 .i64
        obtain ⟨v2, hr2, ho2, e2⟩ := make_own slB rfl v1 1048576 (by decide) (by decide) .i64 .i64
        exact ⟨_, _, _, v1, hr1, _, _, _, v2, hr2, put ((T7.ext e1).ext e2) ho2 (ho1.keep e2 fun _ _ h => h)⟩
end Go.Proofs.Ytadlhdiejmilmaa
