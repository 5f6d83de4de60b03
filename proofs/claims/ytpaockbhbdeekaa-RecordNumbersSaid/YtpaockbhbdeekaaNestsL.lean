/- The preconditions of Go functions, printed by a program of this workplace (nests.py); each is proved to be the engine's own. -/
import Derived.Test.YtpaockbhbdeekaaProg
import Derived.Test.YtpaockbhbdeekaaSxWp
set_option linter.unusedVariables false
set_option maxRecDepth 100000
namespace Go.Proofs.Ytpaockbhbdeekaa
open Go Go.Sx
noncomputable def cardindexlaw03_awake.W : World → (Value → World → Prop) → Prop := fun (w : Go.World) (K : Go.Value → Go.World → Prop) => Go.Sx.CallsV Go.Proofs.Try.prog (30 : Nat) #[Go.Value.int
 Go.IntKind.i64 (1 : Int)] w fun (v : Go.Value) (w' : Go.World) => ∃ (x : Int), ∃ (x_1 : Int), ∃ (x_2 : ByteArray), v = Go.Value.agg #[Go.Value.int Go.IntKind.u8 x, Go.Value.int Go.IntKind.i64 x_1,
 Go.Value.string x_2] ∧ Go.Sx.CallsV Go.Proofs.Try.prog (30 : Nat) #[Go.Value.int Go.IntKind.i64 (-129 : Int)] w' fun (v : Go.Value) (w' : Go.World) => ∃ (x_3 : Int), ∃ (x_4 : Int), ∃ (x_5 : ByteArray),
 v = Go.Value.agg #[Go.Value.int Go.IntKind.u8 x_3, Go.Value.int Go.IntKind.i64 x_4, Go.Value.string x_5] ∧ Go.Sx.CallsV Go.Proofs.Try.prog (31 : Nat) #[Go.Value.string (ByteArray.mk #[(104 : UInt8),
 (105 : UInt8)])] w' fun (v : Go.Value) (w' : Go.World) => ∃ (x_6 : Int), ∃ (x_7 : Int), ∃ (x_8 : ByteArray), v = Go.Value.agg #[Go.Value.int Go.IntKind.u8 x_6, Go.Value.int Go.IntKind.i64 x_7,
 Go.Value.string x_8] ∧ Go.Sx.CallsV Go.Proofs.Try.prog (36 : Nat) #[Go.Value.string (ByteArray.mk #[(0 : UInt8)])] w' fun (v : Go.Value) (w' : Go.World) => ∃ (x_9 : Int), ∃ (x_10 : Int), ∃ (x_11 :
 ByteArray), v = Go.Value.agg #[Go.Value.int Go.IntKind.u8 x_9, Go.Value.int Go.IntKind.i64 x_10, Go.Value.string x_11] ∧ Go.Sx.CallsV Go.Proofs.Try.prog (17 : Nat) #[Go.Value.slice (Option.some
 (Go.Addr.mk (Array.size (Go.World.heap w')) (0 : Nat) Option.none)) (5 : Nat) (5 : Nat)] (Go.World.alloc w' (Go.Obj.cells #[Go.Value.int Go.IntKind.u8 (0 : Int), Go.Value.int Go.IntKind.i64 (0 : Int),
 Go.Value.string (ByteArray.mk #[]), Go.Value.int Go.IntKind.u8 x, Go.Value.int Go.IntKind.i64 x_1, Go.Value.string x_2, Go.Value.int Go.IntKind.u8 x_3, Go.Value.int Go.IntKind.i64 x_4, Go.Value.string
 x_5, Go.Value.int Go.IntKind.u8 x_6, Go.Value.int Go.IntKind.i64 x_7, Go.Value.string x_8, Go.Value.int Go.IntKind.u8 x_9, Go.Value.int Go.IntKind.i64 x_10, Go.Value.string x_11] (37 : Nat))) fun (v :
 Go.Value) (w' : Go.World) => ∃ (x : Option Go.Addr), ∃ (x_12 : Nat), ∃ (x_13 : Nat), ∃ (x_14 : Int), v = Go.Value.tuple #[Go.Value.slice x x_12 x_13, Go.Value.int Go.IntKind.i64 x_14] ∧ Go.Sx.CallsV
 Go.Proofs.Try.prog (30 : Nat) #[Go.Value.int Go.IntKind.i64 (-1 : Int)] w' fun (v : Go.Value) (w' : Go.World) => ∃ (x_15 : Int), ∃ (x_16 : Int), ∃ (x_17 : ByteArray), v = Go.Value.agg #[Go.Value.int
 Go.IntKind.u8 x_15, Go.Value.int Go.IntKind.i64 x_16, Go.Value.string x_17] ∧ Go.Sx.CallsV Go.Proofs.Try.prog (14 : Nat) #[Go.Value.slice (Option.some (Go.Addr.mk (Array.size (Go.World.heap w')) (0 :
 Nat) Option.none)) (1 : Nat) (1 : Nat), Go.Value.slice (Option.some (Go.Addr.mk (Array.size (Go.World.heap (Go.World.alloc w' (Go.Obj.cells #[Go.Value.int Go.IntKind.u8 x_15, Go.Value.int
 Go.IntKind.i64 x_16, Go.Value.string x_17] (37 : Nat))))) (0 : Nat) Option.none)) (1 : Nat) (1 : Nat)] (Go.World.alloc (Go.World.alloc w' (Go.Obj.cells #[Go.Value.int Go.IntKind.u8 x_15, Go.Value.int
 Go.IntKind.i64 x_16, Go.Value.string x_17] (37 : Nat))) (Go.Obj.cells #[Go.Value.bool Bool.false] (4 : Nat))) fun (v : Go.Value) (w' : Go.World) => ∃ (x_18 : Option Go.Addr), ∃ (x_19 : Nat), ∃ (x_20 :
 Nat), ∃ (x_21 : Int), v = Go.Value.tuple #[Go.Value.slice x_18 x_19 x_20, Go.Value.int Go.IntKind.i64 x_21] ∧ Go.Sx.CallsV Go.Proofs.Try.prog (31 : Nat) #[Go.Value.string (ByteArray.mk #[(0 : UInt8)])]
 w' fun (v : Go.Value) (w' : Go.World) => ∃ (x_22 : Int), ∃ (x_23 : Int), ∃ (x_24 : ByteArray), v = Go.Value.agg #[Go.Value.int Go.IntKind.u8 x_22, Go.Value.int Go.IntKind.i64 x_23, Go.Value.string
 x_24] ∧ Go.Sx.CallsV Go.Proofs.Try.prog (14 : Nat) #[Go.Value.slice (Option.some (Go.Addr.mk (Array.size (Go.World.heap w')) (0 : Nat) Option.none)) (1 : Nat) (1 : Nat), Go.Value.slice (Option.some
 (Go.Addr.mk (Array.size (Go.World.heap (Go.World.alloc w' (Go.Obj.cells #[Go.Value.int Go.IntKind.u8 x_22, Go.Value.int Go.IntKind.i64 x_23, Go.Value.string x_24] (37 : Nat))))) (0 : Nat) Option.none))
 (1 : Nat) (1 : Nat)] (Go.World.alloc (Go.World.alloc w' (Go.Obj.cells #[Go.Value.int Go.IntKind.u8 x_22, Go.Value.int Go.IntKind.i64 x_23, Go.Value.string x_24] (37 : Nat))) (Go.Obj.cells
 #[Go.Value.bool Bool.true] (4 : Nat))) fun (v : Go.Value) (w' : Go.World) => ∃ (x_25 : Option Go.Addr), ∃ (x_26 : Nat), ∃ (x_27 : Nat), ∃ (x_28 : Int), v = Go.Value.tuple #[Go.Value.slice x_25 x_26
 x_27, Go.Value.int Go.IntKind.i64 x_28] ∧ Go.Sx.CallsV Go.Proofs.Try.prog (14 : Nat) #[Go.Value.slice (Option.some (Go.Addr.mk (Array.size (Go.World.heap w')) (0 : Nat) Option.none)) (1 : Nat) (1 :
 Nat), Go.Value.slice (Option.some (Go.Addr.mk (Array.size (Go.World.heap (Go.World.alloc w' (Go.Obj.cells #[Go.Value.int Go.IntKind.u8 (0 : Int), Go.Value.int Go.IntKind.i64 (0 : Int), Go.Value.string
 (ByteArray.mk #[])] (37 : Nat))))) (0 : Nat) Option.none)) (1 : Nat) (1 : Nat)] (Go.World.alloc (Go.World.alloc w' (Go.Obj.cells #[Go.Value.int Go.IntKind.u8 (0 : Int), Go.Value.int Go.IntKind.i64 (0 :
 Int), Go.Value.string (ByteArray.mk #[])] (37 : Nat))) (Go.Obj.cells #[Go.Value.bool Bool.false] (4 : Nat))) fun (v : Go.Value) (w' : Go.World) => ∃ (x_29 : Option Go.Addr), ∃ (x_30 : Nat), ∃ (x_31 :
 Nat), ∃ (x_32 : Int), v = Go.Value.tuple #[Go.Value.slice x_29 x_30 x_31, Go.Value.int Go.IntKind.i64 x_32] ∧ Go.Sx.CallsV Go.Proofs.Try.prog (30 : Nat) #[Go.Value.int Go.IntKind.i64
 (-9223372036854775808 : Int)] w' fun (v : Go.Value) (w' : Go.World) => ∃ (x_33 : Int), ∃ (x_34 : Int), ∃ (x_35 : ByteArray), v = Go.Value.agg #[Go.Value.int Go.IntKind.u8 x_33, Go.Value.int
 Go.IntKind.i64 x_34, Go.Value.string x_35] ∧ Go.Sx.CallsV Go.Proofs.Try.prog (14 : Nat) #[Go.Value.slice (Option.some (Go.Addr.mk (Array.size (Go.World.heap w')) (0 : Nat) Option.none)) (1 : Nat) (1 :
 Nat), Go.Value.slice (Option.some (Go.Addr.mk (Array.size (Go.World.heap (Go.World.alloc w' (Go.Obj.cells #[Go.Value.int Go.IntKind.u8 x_33, Go.Value.int Go.IntKind.i64 x_34, Go.Value.string x_35] (37
 : Nat))))) (0 : Nat) Option.none)) (1 : Nat) (1 : Nat)] (Go.World.alloc (Go.World.alloc w' (Go.Obj.cells #[Go.Value.int Go.IntKind.u8 x_33, Go.Value.int Go.IntKind.i64 x_34, Go.Value.string x_35] (37 :
 Nat))) (Go.Obj.cells #[Go.Value.bool Bool.false] (4 : Nat))) fun (v : Go.Value) (w' : Go.World) => ∃ (x_36 : Option Go.Addr), ∃ (x_37 : Nat), ∃ (x_38 : Nat), ∃ (x_39 : Int), v = Go.Value.tuple
 #[Go.Value.slice x_36 x_37 x_38, Go.Value.int Go.IntKind.i64 x_39] ∧ bif Decidable.decide (Go.IntKind.wrap Go.IntKind.i64 (Go.IntKind.wrap Go.IntKind.i64 (Go.IntKind.wrap Go.IntKind.i64
 (Go.IntKind.wrap Go.IntKind.i64 (x_14 + x_21) + x_28) + x_32) + x_39) = (0 : Int)) then Go.Sx.CallsV Go.Proofs.Try.prog (15 : Nat) #[Go.Value.slice x x_12 x_13, Go.Value.slice (Option.some (Go.Addr.mk
 (Array.size (Go.World.heap w')) (0 : Nat) Option.none)) (12 : Nat) (12 : Nat)] (Go.World.alloc w' (Go.Obj.cells #[Go.Value.int Go.IntKind.u8 (5 : Int), Go.Value.int Go.IntKind.u8 (0 : Int),
 Go.Value.int Go.IntKind.u8 (1 : Int), Go.Value.int Go.IntKind.u8 (2 : Int), Go.Value.int Go.IntKind.u8 (15 : Int), Go.Value.int Go.IntKind.u8 (12 : Int), Go.Value.int Go.IntKind.u8 (1 : Int),
 Go.Value.int Go.IntKind.u8 (255 : Int), Go.Value.int Go.IntKind.u8 (127 : Int), Go.Value.int Go.IntKind.u8 (104 : Int), Go.Value.int Go.IntKind.u8 (105 : Int), Go.Value.int Go.IntKind.u8 (0 : Int)] (5
 : Nat))) fun (v : Go.Value) (w' : Go.World) => ∃ (x : Bool), v = Go.Value.bool x ∧ bif x then Go.Sx.CallsV Go.Proofs.Try.prog (15 : Nat) #[Go.Value.slice x_18 x_19 x_20, Go.Value.slice (Option.some
 (Go.Addr.mk (Array.size (Go.World.heap w')) (0 : Nat) Option.none)) (9 : Nat) (9 : Nat)] (Go.World.alloc w' (Go.Obj.cells #[Go.Value.int Go.IntKind.u8 (2 : Int), Go.Value.int Go.IntKind.u8 (127 : Int),
 Go.Value.int Go.IntKind.u8 (255 : Int), Go.Value.int Go.IntKind.u8 (255 : Int), Go.Value.int Go.IntKind.u8 (255 : Int), Go.Value.int Go.IntKind.u8 (255 : Int), Go.Value.int Go.IntKind.u8 (255 : Int),
 Go.Value.int Go.IntKind.u8 (255 : Int), Go.Value.int Go.IntKind.u8 (255 : Int)] (5 : Nat))) fun (v : Go.Value) (w' : Go.World) => ∃ (x : Bool), v = Go.Value.bool x ∧ bif x then Go.Sx.CallsV
 Go.Proofs.Try.prog (15 : Nat) #[Go.Value.slice x_25 x_26 x_27, Go.Value.slice (Option.some (Go.Addr.mk (Array.size (Go.World.heap w')) (0 : Nat) Option.none)) (5 : Nat) (5 : Nat)] (Go.World.alloc w'
 (Go.Obj.cells #[Go.Value.int Go.IntKind.u8 (252 : Int), Go.Value.int Go.IntKind.u8 (255 : Int), Go.Value.int Go.IntKind.u8 (0 : Int), Go.Value.int Go.IntKind.u8 (255 : Int), Go.Value.int Go.IntKind.u8
 (255 : Int)] (5 : Nat))) fun (v : Go.Value) (w' : Go.World) => ∃ (x : Bool), v = Go.Value.bool x ∧ bif x then ∃ (x : ByteArray), ∃ (w'_1 : Go.World), Go.Sx.RunsTo Go.Proofs.Try.prog (Go.convert (27 :
 Nat) (9 : Nat) (Go.Value.slice x_29 x_30 x_31)) w' (Go.Value.string x) w'_1 ∧ ∃ (x_40 : ByteArray), ∃ (w' : Go.World), Go.Sx.RunsTo Go.Proofs.Try.prog (Go.convert (27 : Nat) (9 : Nat) (Go.Value.slice
 x_36 x_37 x_38)) w'_1 (Go.Value.string x_40) w' ∧ K (Go.Value.bool (Go.Op.bytesLess (ByteArray.toList x) (ByteArray.toList x_40))) w' else K (Go.Value.bool Bool.false) w' else K (Go.Value.bool
 Bool.false) w' else K (Go.Value.bool Bool.false) w' else K (Go.Value.bool Bool.false) w'
theorem cardindexlaw03_awake.eq  (w : World) (K : Value → World → Prop) : cardindexlaw03_awake.W  w K = fnW Try.prog Try.f12 .auto [] w K := by kernel_rfl
theorem cardindexlaw03_awake.calls (ok : Okay Try.prog)  {w : World} {K : Value → World → Prop} (h : cardindexlaw03_awake.W  w K) : CallsV Try.prog 12 #[] w K :=
  fnW_calls ok Try.func12 (an := .auto) (args := []) (by rw [← cardindexlaw03_awake.eq]; exact h)
noncomputable def cardindexlaw03_RecordJoin.W : Option Addr → Nat → Nat → Option Addr → Nat → Nat → Int → World → (Value → World → Prop) → Prop := fun (a_A : Option Go.Addr) (a_n a_c : Nat) (l_A :
 Option Go.Addr) (l_n l_c : Nat) (cut : Int) (w : Go.World) (K : Go.Value → Go.World → Prop) => Go.Sx.CallsV Go.Proofs.Try.prog (11 : Nat) #[Go.Value.slice a_A a_n a_c, Go.Value.int Go.IntKind.i64 (20 :
 Int)] w fun (v : Go.Value) (w' : Go.World) => ∃ (x : Bool), v = Go.Value.bool x ∧ bif !x then Go.Sx.CallsV Go.Proofs.Try.prog (12 : Nat) #[] w' fun (v : Go.Value) (w' : Go.World) => ∃ (x : Bool), v =
 Go.Value.bool x ∧ K (Go.Value.bool x) w' else Go.Sx.CallsV Go.Proofs.Try.prog (13 : Nat) #[Go.Value.slice l_A l_n l_c, Go.Value.int Go.IntKind.i64 (↑a_n : Int)] w' fun (v : Go.Value) (w' : Go.World) =>
 ∃ (x : Option Go.Addr), ∃ (x_1 : Nat), ∃ (x_2 : Nat), v = Go.Value.slice x x_1 x_2 ∧ Go.IntKind.wrap Go.IntKind.i64 ((↑a_n : Int) + (1 : Int)) ≠ (0 : Int) ∧ Go.Sx.CallsV Go.Proofs.Try.prog (14 : Nat)
 #[Go.Value.slice a_A a_n a_c, Go.Value.slice x x_1 x_2] w' fun (v : Go.Value) (w' : Go.World) => ∃ (x_3 : Option Go.Addr), ∃ (x_4 : Nat), ∃ (x_5 : Nat), ∃ (x_6 : Int), v = Go.Value.tuple
 #[Go.Value.slice x_3 x_4 x_5, Go.Value.int Go.IntKind.i64 x_6] ∧ ∃ (S : Go.World → Prop), S (Go.World.drew w') ∧ ((0 : Int) ≤ Int.tmod (Go.IntKind.wrap Go.IntKind.i64 cut) (Go.IntKind.wrap
 Go.IntKind.i64 ((↑a_n : Int) + (1 : Int))) ∧ Int.tmod (Go.IntKind.wrap Go.IntKind.i64 cut) (Go.IntKind.wrap Go.IntKind.i64 ((↑a_n : Int) + (1 : Int))) ≤ (↑a_c : Int)) ∧ ((0 : Int) ≤ Int.tmod
 (Go.IntKind.wrap Go.IntKind.i64 cut) (Go.IntKind.wrap Go.IntKind.i64 ((↑a_n : Int) + (1 : Int))) ∧ Int.tmod (Go.IntKind.wrap Go.IntKind.i64 cut) (Go.IntKind.wrap Go.IntKind.i64 ((↑a_n : Int) + (1 :
 Int))) ≤ (↑x_2 : Int)) ∧ Go.Sx.CallsV Go.Proofs.Try.prog (14 : Nat) #[Go.Value.slice (Go.Sx.cutAt a_A a_c (0 : Nat) (3 : Nat)) (Int.toNat (Int.tmod (Go.IntKind.wrap Go.IntKind.i64 cut) (Go.IntKind.wrap
 Go.IntKind.i64 ((↑a_n : Int) + (1 : Int)))) - (0 : Nat)) (a_c - (0 : Nat)), Go.Value.slice (Go.Sx.cutAt x x_2 (0 : Nat) (1 : Nat)) (Int.toNat (Int.tmod (Go.IntKind.wrap Go.IntKind.i64 cut)
 (Go.IntKind.wrap Go.IntKind.i64 ((↑a_n : Int) + (1 : Int)))) - (0 : Nat)) (x_2 - (0 : Nat))] (Go.World.drew w') fun (v : Go.Value) (w' : Go.World) => ∃ (x_7 : Option Go.Addr), ∃ (x_8 : Nat), ∃ (x_9 :
 Nat), ∃ (x_10 : Int), v = Go.Value.tuple #[Go.Value.slice x_7 x_8 x_9, Go.Value.int Go.IntKind.i64 x_10] ∧ ∃ (S' : Go.World → Prop), (∀ (u : Go.World), S' u → S u) ∧ S' w' ∧ ∃ (S : Go.World → Prop), S
 (Go.World.drew w') ∧ ((0 : Int) ≤ Int.tmod (Go.IntKind.wrap Go.IntKind.i64 cut) (Go.IntKind.wrap Go.IntKind.i64 ((↑a_n : Int) + (1 : Int))) ∧ Int.tmod (Go.IntKind.wrap Go.IntKind.i64 cut)
 (Go.IntKind.wrap Go.IntKind.i64 ((↑a_n : Int) + (1 : Int))) ≤ (↑a_n : Int)) ∧ ((0 : Int) ≤ Int.tmod (Go.IntKind.wrap Go.IntKind.i64 cut) (Go.IntKind.wrap Go.IntKind.i64 ((↑a_n : Int) + (1 : Int))) ∧
 Int.tmod (Go.IntKind.wrap Go.IntKind.i64 cut) (Go.IntKind.wrap Go.IntKind.i64 ((↑a_n : Int) + (1 : Int))) ≤ (↑x_1 : Int)) ∧ Go.Sx.CallsV Go.Proofs.Try.prog (14 : Nat) #[Go.Value.slice (Go.Sx.cutAt a_A
 a_c (Int.toNat (Int.tmod (Go.IntKind.wrap Go.IntKind.i64 cut) (Go.IntKind.wrap Go.IntKind.i64 ((↑a_n : Int) + (1 : Int))))) (3 : Nat)) (a_n - Int.toNat (Int.tmod (Go.IntKind.wrap Go.IntKind.i64 cut)
 (Go.IntKind.wrap Go.IntKind.i64 ((↑a_n : Int) + (1 : Int))))) (a_c - Int.toNat (Int.tmod (Go.IntKind.wrap Go.IntKind.i64 cut) (Go.IntKind.wrap Go.IntKind.i64 ((↑a_n : Int) + (1 : Int))))),
 Go.Value.slice (Go.Sx.cutAt x x_2 (Int.toNat (Int.tmod (Go.IntKind.wrap Go.IntKind.i64 cut) (Go.IntKind.wrap Go.IntKind.i64 ((↑a_n : Int) + (1 : Int))))) (1 : Nat)) (x_1 - Int.toNat (Int.tmod
 (Go.IntKind.wrap Go.IntKind.i64 cut) (Go.IntKind.wrap Go.IntKind.i64 ((↑a_n : Int) + (1 : Int))))) (x_2 - Int.toNat (Int.tmod (Go.IntKind.wrap Go.IntKind.i64 cut) (Go.IntKind.wrap Go.IntKind.i64 ((↑a_n
 : Int) + (1 : Int)))))] (Go.World.drew w') fun (v : Go.Value) (w' : Go.World) => ∃ (x : Option Go.Addr), ∃ (x_11 : Nat), ∃ (x_12 : Nat), ∃ (x_13 : Int), v = Go.Value.tuple #[Go.Value.slice x x_11 x_12,
 Go.Value.int Go.IntKind.i64 x_13] ∧ ∃ (S' : Go.World → Prop), (∀ (u : Go.World), S' u → S u) ∧ S' w' ∧ bif Decidable.decide (x_6 = (0 : Int)) then bif Decidable.decide (x_10 = (0 : Int)) then bif
 Decidable.decide (x_13 = (0 : Int)) then Go.Sx.CallsV Go.Proofs.Try.prog (16 : Nat) #[Go.Value.slice x_7 x_8 x_9] w' fun (v : Go.Value) (w' : Go.World) => ∃ (x_14 : Option Go.Addr), ∃ (x_15 : Nat), ∃
 (x_16 : Nat), v = Go.Value.slice x_14 x_15 x_16 ∧ ∃ (x_17 : Option Go.Addr), ∃ (x_18 : Nat), ∃ (x_19 : Nat), ∃ (w'_1 : Go.World), Go.Sx.RunsTo Go.Proofs.Try.prog (Go.Builtin.append_ (Array.mk [(27 :
 Nat), (27 : Nat)]) (27 : Nat) #[Go.Value.slice x_14 x_15 x_16, Go.Value.slice x x_11 x_12]) w' (Go.Value.slice x_17 x_18 x_19) w'_1 ∧ Go.Sx.CallsV Go.Proofs.Try.prog (15 : Nat) #[Go.Value.slice x_3 x_4
 x_5, Go.Value.slice x_17 x_18 x_19] w'_1 fun (v : Go.Value) (w' : Go.World) => ∃ (x : Bool), v = Go.Value.bool x ∧ bif x then Go.Sx.CallsV Go.Proofs.Try.prog (12 : Nat) #[] w' fun (v : Go.Value) (w' :
 Go.World) => ∃ (x : Bool), v = Go.Value.bool x ∧ K (Go.Value.bool x) w' else K (Go.Value.bool Bool.false) w' else K (Go.Value.bool Bool.false) w' else K (Go.Value.bool Bool.false) w' else K
 (Go.Value.bool Bool.false) w'
theorem cardindexlaw03_RecordJoin.eq (a_A : Option Addr) (a_n : Nat) (a_c : Nat) (l_A : Option Addr) (l_n : Nat) (l_c : Nat) (cut : Int) (w : World) (K : Value → World → Prop) : cardindexlaw03_RecordJoin.W a_A a_n a_c l_A l_n l_c cut w K = fnW Try.prog Try.f3 .auto [.slice a_A a_n a_c, .slice l_A l_n l_c, .int .u8 cut] w K := by kernel_rfl
theorem cardindexlaw03_RecordJoin.calls (ok : Okay Try.prog) {a_A : Option Addr} {a_n : Nat} {a_c : Nat} {l_A : Option Addr} {l_n : Nat} {l_c : Nat} {cut : Int} {w : World} {K : Value → World → Prop} (h : cardindexlaw03_RecordJoin.W a_A a_n a_c l_A l_n l_c cut w K) : CallsV Try.prog 3 #[.slice a_A a_n a_c, .slice l_A l_n l_c, .int .u8 cut] w K :=
  fnW_calls ok Try.func3 (an := .auto) (args := [.slice a_A a_n a_c, .slice l_A l_n l_c, .int .u8 cut]) (by rw [← cardindexlaw03_RecordJoin.eq]; exact h)
noncomputable def cardindexlaw03_RecordTurned.W : Option Addr → Nat → Nat → Option Addr → Nat → Nat → World → (Value → World → Prop) → Prop := fun (a_A : Option Go.Addr) (a_n a_c : Nat) (l_A : Option
 Go.Addr) (l_n l_c : Nat) (w : Go.World) (K : Go.Value → Go.World → Prop) => Go.Sx.CallsV Go.Proofs.Try.prog (11 : Nat) #[Go.Value.slice a_A a_n a_c, Go.Value.int Go.IntKind.i64 (20 : Int)] w fun (v :
 Go.Value) (w' : Go.World) => ∃ (x : Bool), v = Go.Value.bool x ∧ bif !x then Go.Sx.CallsV Go.Proofs.Try.prog (12 : Nat) #[] w' fun (v : Go.Value) (w' : Go.World) => ∃ (x : Bool), v = Go.Value.bool x ∧
 K (Go.Value.bool x) w' else Go.Sx.CallsV Go.Proofs.Try.prog (13 : Nat) #[Go.Value.slice l_A l_n l_c, Go.Value.int Go.IntKind.i64 (↑a_n : Int)] w' fun (v : Go.Value) (w' : Go.World) => ∃ (x : Option
 Go.Addr), ∃ (x_1 : Nat), ∃ (x_2 : Nat), v = Go.Value.slice x x_1 x_2 ∧ Go.Sx.CallsV Go.Proofs.Try.prog (14 : Nat) #[Go.Value.slice a_A a_n a_c, Go.Value.slice x x_1 x_2] w' fun (v : Go.Value) (w' :
 Go.World) => ∃ (x_3 : Option Go.Addr), ∃ (x_4 : Nat), ∃ (x_5 : Nat), ∃ (x_6 : Int), v = Go.Value.tuple #[Go.Value.slice x_3 x_4 x_5, Go.Value.int Go.IntKind.i64 x_6] ∧ ∃ (I : Int → Go.World → Prop), ∃
 (μ : Int → Go.World → Nat), I (0 : Int) w' ∧ ∀ (x_7 : Int) (w : Go.World), I x_7 w → bif Decidable.decide (x_7 < (↑x_1 : Int)) then ∃ (ad : Go.Addr), x = Option.some ad ∧ ((0 : Int) ≤ x_7 ∧ x_7 < (↑x_1
 : Int)) ∧ ∃ (x_8 : Bool), Go.World.cell? w (Go.Addr.add ad (Int.toNat x_7 * (1 : Nat))) = Option.some (Go.Value.bool x_8) ∧ ∃ (ad : Go.Addr), x = Option.some ad ∧ ((0 : Int) ≤ x_7 ∧ x_7 < (↑x_1 : Int))
 ∧ (Option.isSome (Go.World.cell? w (Go.Addr.add (Go.Addr.add ad (Int.toNat x_7 * (1 : Nat))) (0 : Nat))) = Bool.true ∧ Go.World.frozen? w (Go.Addr.add (Go.Addr.add ad (Int.toNat x_7 * (1 : Nat))) (0 :
 Nat)) = Bool.false) ∧ I (Go.IntKind.wrap Go.IntKind.i64 (x_7 + (1 : Int))) (Go.World.setCell w (Go.Addr.add (Go.Addr.add ad (Int.toNat x_7 * (1 : Nat))) (0 : Nat)) (Go.Value.bool !x_8)) ∧ μ
 (Go.IntKind.wrap Go.IntKind.i64 (x_7 + (1 : Int))) (Go.World.setCell w (Go.Addr.add (Go.Addr.add ad (Int.toNat x_7 * (1 : Nat))) (0 : Nat)) (Go.Value.bool !x_8)) < μ x_7 w else Go.Sx.CallsV
 Go.Proofs.Try.prog (14 : Nat) #[Go.Value.slice a_A a_n a_c, Go.Value.slice x x_1 x_2] w fun (v : Go.Value) (w' : Go.World) => ∃ (x : Option Go.Addr), ∃ (x_8 : Nat), ∃ (x_9 : Nat), ∃ (x_10 : Int), v =
 Go.Value.tuple #[Go.Value.slice x x_8 x_9, Go.Value.int Go.IntKind.i64 x_10] ∧ bif !Decidable.decide (x_6 = (0 : Int)) then K (Go.Value.bool Bool.false) w' else bif !Decidable.decide (x_10 = (0 : Int))
 then K (Go.Value.bool Bool.false) w' else bif !Decidable.decide ((↑x_4 : Int) = (↑x_8 : Int)) then K (Go.Value.bool Bool.false) w' else ∃ (I : Int → Go.World → Prop), ∃ (μ : Int → Go.World → Nat), I (0
 : Int) w' ∧ ∀ (x_11 : Int) (w : Go.World), I x_11 w → bif Decidable.decide (x_11 < (↑x_4 : Int)) then ∃ (S : Go.World → Prop), S (Go.World.drew w) ∧ ∃ (ad : Go.Addr), x_3 = Option.some ad ∧ ((0 : Int)
 ≤ x_11 ∧ x_11 < (↑x_4 : Int)) ∧ ∃ (x_12 : Int), (∀ (u : Go.World), S u → Go.World.cell? u (Go.Addr.add ad (Int.toNat x_11 * (1 : Nat))) = Option.some (Go.Value.int Go.IntKind.u8 x_12)) ∧ ∃ (ad :
 Go.Addr), x = Option.some ad ∧ ((0 : Int) ≤ x_11 ∧ x_11 < (↑x_8 : Int)) ∧ ∃ (x : Int), (∀ (u : Go.World), S u → Go.World.cell? u (Go.Addr.add ad (Int.toNat x_11 * (1 : Nat))) = Option.some
 (Go.Value.int Go.IntKind.u8 x)) ∧ bif !Decidable.decide (x_12 = Go.IntKind.wrap Go.IntKind.u8 (↑(BitVec.toNat (BitVec.ofInt (8 : Nat) (if Go.IntKind.signed Go.IntKind.u8 = Bool.true then (-1 : Int)
 else Go.IntKind.max Go.IntKind.u8) ^^^ BitVec.ofInt (8 : Nat) x)) : Int)) then K (Go.Value.bool Bool.false) (Go.World.drew w) else I (Go.IntKind.wrap Go.IntKind.i64 (x_11 + (1 : Int))) (Go.World.drew
 w) ∧ μ (Go.IntKind.wrap Go.IntKind.i64 (x_11 + (1 : Int))) (Go.World.drew w) < μ x_11 w else Go.Sx.CallsV Go.Proofs.Try.prog (12 : Nat) #[] w fun (v : Go.Value) (w' : Go.World) => ∃ (x : Bool), v =
 Go.Value.bool x ∧ K (Go.Value.bool x) w'
theorem cardindexlaw03_RecordTurned.eq (a_A : Option Addr) (a_n : Nat) (a_c : Nat) (l_A : Option Addr) (l_n : Nat) (l_c : Nat) (w : World) (K : Value → World → Prop) : cardindexlaw03_RecordTurned.W a_A a_n a_c l_A l_n l_c w K = fnW Try.prog Try.f4 (.seq .auto (.seq .auto (.seq .auto (.seq .auto (.seq (.seq .auto (.block (.loop [(28, .one (.int .i64))] .auto))) (.seq .auto (.seq .auto (.seq (.seq .auto (.block (.loop [(61, .one (.int .i64))] .auto))) .auto)))))))) [.slice a_A a_n a_c, .slice l_A l_n l_c] w K := by kernel_rfl
theorem cardindexlaw03_RecordTurned.calls (ok : Okay Try.prog) {a_A : Option Addr} {a_n : Nat} {a_c : Nat} {l_A : Option Addr} {l_n : Nat} {l_c : Nat} {w : World} {K : Value → World → Prop} (h : cardindexlaw03_RecordTurned.W a_A a_n a_c l_A l_n l_c w K) : CallsV Try.prog 4 #[.slice a_A a_n a_c, .slice l_A l_n l_c] w K :=
  fnW_calls ok Try.func4 (an := (.seq .auto (.seq .auto (.seq .auto (.seq .auto (.seq (.seq .auto (.block (.loop [(28, .one (.int .i64))] .auto))) (.seq .auto (.seq .auto (.seq (.seq .auto (.block (.loop [(61, .one (.int .i64))] .auto))) .auto))))))))) (args := [.slice a_A a_n a_c, .slice l_A l_n l_c]) (by rw [← cardindexlaw03_RecordTurned.eq]; exact h)
noncomputable def cardindexlaw03_RecordShort.W : Option Addr → Nat → Nat → World → (Value → World → Prop) → Prop := fun (a_A : Option Go.Addr) (a_n a_c : Nat) (w : Go.World) (K : Go.Value → Go.World →
 Prop) => Go.Sx.CallsV Go.Proofs.Try.prog (11 : Nat) #[Go.Value.slice a_A a_n a_c, Go.Value.int Go.IntKind.i64 (150 : Int)] w fun (v : Go.Value) (w' : Go.World) => ∃ (x : Bool), v = Go.Value.bool x ∧
 bif !x then Go.Sx.CallsV Go.Proofs.Try.prog (12 : Nat) #[] w' fun (v : Go.Value) (w' : Go.World) => ∃ (x : Bool), v = Go.Value.bool x ∧ K (Go.Value.bool x) w' else ∃ (I : Int → Int → Go.World → Prop),
 ∃ (μ : Int → Int → Go.World → Nat), I (2 : Int) (0 : Int) w' ∧ ∀ (x x_1 : Int) (w : Go.World), I x x_1 w → bif Decidable.decide (x_1 < (↑a_n : Int)) then ∃ (ad : Go.Addr), a_A = Option.some ad ∧ ((0 :
 Int) ≤ x_1 ∧ x_1 < (↑a_n : Int)) ∧ ∃ (x_2 : Int), Go.World.cell? w (Go.Addr.add (Go.Addr.add ad (Int.toNat x_1 * (3 : Nat))) (0 : Nat)) = Option.some (Go.Value.int Go.IntKind.u8 x_2) ∧ bif
 Decidable.decide (x_2 = (0 : Int)) then I (Go.IntKind.wrap Go.IntKind.i64 (x + (1 : Int))) (Go.IntKind.wrap Go.IntKind.i64 (x_1 + (1 : Int))) w ∧ μ (Go.IntKind.wrap Go.IntKind.i64 (x + (1 : Int)))
 (Go.IntKind.wrap Go.IntKind.i64 (x_1 + (1 : Int))) w < μ x x_1 w else bif Decidable.decide (x_2 = (1 : Int)) then I (Go.IntKind.wrap Go.IntKind.i64 (x + (9 : Int))) (Go.IntKind.wrap Go.IntKind.i64 (x_1
 + (1 : Int))) w ∧ μ (Go.IntKind.wrap Go.IntKind.i64 (x + (9 : Int))) (Go.IntKind.wrap Go.IntKind.i64 (x_1 + (1 : Int))) w < μ x x_1 w else ∃ (ad : Go.Addr), a_A = Option.some ad ∧ ((0 : Int) ≤ x_1 ∧
 x_1 < (↑a_n : Int)) ∧ ∃ (x_3 : ByteArray), Go.World.cell? w (Go.Addr.add (Go.Addr.add ad (Int.toNat x_1 * (3 : Nat))) (2 : Nat)) = Option.some (Go.Value.string x_3) ∧ I (Go.IntKind.wrap Go.IntKind.i64
 (x + Go.IntKind.wrap Go.IntKind.i64 ((↑(ByteArray.size x_3) : Int) + (3 : Int)))) (Go.IntKind.wrap Go.IntKind.i64 (x_1 + (1 : Int))) w ∧ μ (Go.IntKind.wrap Go.IntKind.i64 (x + Go.IntKind.wrap
 Go.IntKind.i64 ((↑(ByteArray.size x_3) : Int) + (3 : Int)))) (Go.IntKind.wrap Go.IntKind.i64 (x_1 + (1 : Int))) w < μ x x_1 w else Go.Sx.CallsV Go.Proofs.Try.prog (17 : Nat) #[Go.Value.slice a_A a_n
 a_c] w fun (v : Go.Value) (w' : Go.World) => ∃ (x_2 : Option Go.Addr), ∃ (x_3 : Nat), ∃ (x_4 : Nat), ∃ (x_5 : Int), v = Go.Value.tuple #[Go.Value.slice x_2 x_3 x_4, Go.Value.int Go.IntKind.i64 x_5] ∧
 Go.Sx.CallsV Go.Proofs.Try.prog (18 : Nat) #[Go.Value.slice a_A a_n a_c] w' fun (v : Go.Value) (w' : Go.World) => ∃ (x_6 : Option Go.Addr), ∃ (x_7 : Nat), ∃ (x_8 : Nat), v = Go.Value.slice x_6 x_7 x_8
 ∧ ∃ (x_9 : Option Go.Addr), ∃ (x_10 : Nat), ∃ (x_11 : Nat), ∃ (w'_1 : Go.World), Go.Sx.RunsTo Go.Proofs.Try.prog (Go.Builtin.append_ (Array.mk [(22 : Nat), (22 : Nat)]) (22 : Nat) #[Go.Value.slice x_6
 x_7 x_8, Go.Value.slice (Option.some (Go.Addr.mk (Array.size (Go.World.heap w')) (0 : Nat) Option.none)) (1 : Nat) (1 : Nat)]) (Go.World.alloc w' (Go.Obj.cells #[Go.Value.int Go.IntKind.u8 (0 : Int),
 Go.Value.int Go.IntKind.i64 (0 : Int), Go.Value.string (ByteArray.mk #[])] (37 : Nat))) (Go.Value.slice x_9 x_10 x_11) w'_1 ∧ Go.Sx.CallsV Go.Proofs.Try.prog (17 : Nat) #[Go.Value.slice x_9 x_10 x_11]
 w'_1 fun (v : Go.Value) (w' : Go.World) => ∃ (x_12 : Option Go.Addr), ∃ (x_13 : Nat), ∃ (x_14 : Nat), ∃ (x_15 : Int), v = Go.Value.tuple #[Go.Value.slice x_12 x_13 x_14, Go.Value.int Go.IntKind.i64
 x_15] ∧ bif Decidable.decide (x_5 = (0 : Int)) then bif Decidable.decide (x_15 = (0 : Int)) then bif Decidable.decide ((↑x_3 : Int) ≤ x) then bif Decidable.decide ((↑a_n : Int) < (↑x_3 : Int)) then bif
 Decidable.decide ((↑x_3 : Int) < (↑x_13 : Int)) then Go.Sx.CallsV Go.Proofs.Try.prog (12 : Nat) #[] w' fun (v : Go.Value) (w' : Go.World) => ∃ (x : Bool), v = Go.Value.bool x ∧ K (Go.Value.bool x) w'
 else K (Go.Value.bool Bool.false) w' else K (Go.Value.bool Bool.false) w' else K (Go.Value.bool Bool.false) w' else K (Go.Value.bool Bool.false) w' else K (Go.Value.bool Bool.false) w'
theorem cardindexlaw03_RecordShort.eq (a_A : Option Addr) (a_n : Nat) (a_c : Nat) (w : World) (K : Value → World → Prop) : cardindexlaw03_RecordShort.W a_A a_n a_c w K = fnW Try.prog Try.f5 (.seq .auto (.seq .auto (.seq .auto (.seq (.seq .auto (.block (.loop [(3, .one (.int .i64)), (15, .one (.int .i64))] .auto))) .auto)))) [.slice a_A a_n a_c] w K := by kernel_rfl
theorem cardindexlaw03_RecordShort.calls (ok : Okay Try.prog) {a_A : Option Addr} {a_n : Nat} {a_c : Nat} {w : World} {K : Value → World → Prop} (h : cardindexlaw03_RecordShort.W a_A a_n a_c w K) : CallsV Try.prog 5 #[.slice a_A a_n a_c] w K :=
  fnW_calls ok Try.func5 (an := (.seq .auto (.seq .auto (.seq .auto (.seq (.seq .auto (.block (.loop [(3, .one (.int .i64)), (15, .one (.int .i64))] .auto))) .auto))))) (args := [.slice a_A a_n a_c]) (by rw [← cardindexlaw03_RecordShort.eq]; exact h)
noncomputable def cardindexlaw03_RecordOrder.W : Option Addr → Nat → Nat → Option Addr → Nat → Nat → Option Addr → Nat → Nat → World → (Value → World → Prop) → Prop := fun (a_A : Option Go.Addr) (a_n
 a_c : Nat) (b_A : Option Go.Addr) (b_n b_c : Nat) (l_A : Option Go.Addr) (l_n l_c : Nat) (w : Go.World) (K : Go.Value → Go.World → Prop) => Go.Sx.CallsV Go.Proofs.Try.prog (11 : Nat) #[Go.Value.slice
 a_A a_n a_c, Go.Value.int Go.IntKind.i64 (20 : Int)] w fun (v : Go.Value) (w' : Go.World) => ∃ (x : Bool), v = Go.Value.bool x ∧ bif !x then Go.Sx.CallsV Go.Proofs.Try.prog (12 : Nat) #[] w' fun (v :
 Go.Value) (w' : Go.World) => ∃ (x : Bool), v = Go.Value.bool x ∧ K (Go.Value.bool x) w' else Go.Sx.CallsV Go.Proofs.Try.prog (11 : Nat) #[Go.Value.slice b_A b_n b_c, Go.Value.int Go.IntKind.i64 (20 :
 Int)] w' fun (v : Go.Value) (w' : Go.World) => ∃ (x : Bool), v = Go.Value.bool x ∧ bif !x then Go.Sx.CallsV Go.Proofs.Try.prog (12 : Nat) #[] w' fun (v : Go.Value) (w' : Go.World) => ∃ (x : Bool), v =
 Go.Value.bool x ∧ K (Go.Value.bool x) w' else Go.Sx.CallsV Go.Proofs.Try.prog (13 : Nat) #[Go.Value.slice l_A l_n l_c, Go.Value.int Go.IntKind.i64 (if (↑b_n : Int) < (↑a_n : Int) then (↑b_n : Int) else
 (↑a_n : Int))] w' fun (v : Go.Value) (w' : Go.World) => ∃ (x : Option Go.Addr), ∃ (x_1 : Nat), ∃ (x_2 : Nat), v = Go.Value.slice x x_1 x_2 ∧ (((0 : Int) ≤ if (↑b_n : Int) < (↑a_n : Int) then (↑b_n :
 Int) else (↑a_n : Int)) ∧ (if (↑b_n : Int) < (↑a_n : Int) then (↑b_n : Int) else (↑a_n : Int)) ≤ (↑a_c : Int)) ∧ Go.Sx.CallsV Go.Proofs.Try.prog (14 : Nat) #[Go.Value.slice (Go.Sx.cutAt a_A a_c (0 :
 Nat) (3 : Nat)) (Int.toNat (if (↑b_n : Int) < (↑a_n : Int) then (↑b_n : Int) else (↑a_n : Int)) - (0 : Nat)) (a_c - (0 : Nat)), Go.Value.slice x x_1 x_2] w' fun (v : Go.Value) (w' : Go.World) => ∃ (x_3
 : Option Go.Addr), ∃ (x_4 : Nat), ∃ (x_5 : Nat), ∃ (x_6 : Int), v = Go.Value.tuple #[Go.Value.slice x_3 x_4 x_5, Go.Value.int Go.IntKind.i64 x_6] ∧ (((0 : Int) ≤ if (↑b_n : Int) < (↑a_n : Int) then
 (↑b_n : Int) else (↑a_n : Int)) ∧ (if (↑b_n : Int) < (↑a_n : Int) then (↑b_n : Int) else (↑a_n : Int)) ≤ (↑b_c : Int)) ∧ Go.Sx.CallsV Go.Proofs.Try.prog (14 : Nat) #[Go.Value.slice (Go.Sx.cutAt b_A b_c
 (0 : Nat) (3 : Nat)) (Int.toNat (if (↑b_n : Int) < (↑a_n : Int) then (↑b_n : Int) else (↑a_n : Int)) - (0 : Nat)) (b_c - (0 : Nat)), Go.Value.slice x x_1 x_2] w' fun (v : Go.Value) (w' : Go.World) => ∃
 (x_7 : Option Go.Addr), ∃ (x_8 : Nat), ∃ (x_9 : Nat), ∃ (x_10 : Int), v = Go.Value.tuple #[Go.Value.slice x_7 x_8 x_9, Go.Value.int Go.IntKind.i64 x_10] ∧ ∃ (S : Go.World → Prop), S (Go.World.drew w')
 ∧ bif Decidable.decide (x_6 = (0 : Int)) then bif Decidable.decide (x_10 = (0 : Int)) then ∃ (r : ByteArray), (∀ (u : Go.World), S u → Go.Sx.RunsTo Go.Proofs.Try.prog (Go.convert (27 : Nat) (9 : Nat)
 (Go.Value.slice x_3 x_4 x_5)) u (Go.Value.string r) u) ∧ ∃ (r_1 : ByteArray), (∀ (u : Go.World), S u → Go.Sx.RunsTo Go.Proofs.Try.prog (Go.convert (27 : Nat) (9 : Nat) (Go.Value.slice x_7 x_8 x_9)) u
 (Go.Value.string r_1) u) ∧ (((0 : Int) ≤ if (↑b_n : Int) < (↑a_n : Int) then (↑b_n : Int) else (↑a_n : Int)) ∧ (if (↑b_n : Int) < (↑a_n : Int) then (↑b_n : Int) else (↑a_n : Int)) ≤ (↑a_c : Int)) ∧
 (((0 : Int) ≤ if (↑b_n : Int) < (↑a_n : Int) then (↑b_n : Int) else (↑a_n : Int)) ∧ (if (↑b_n : Int) < (↑a_n : Int) then (↑b_n : Int) else (↑a_n : Int)) ≤ (↑b_c : Int)) ∧ Go.Sx.CallsV
 Go.Proofs.Try.prog (19 : Nat) #[Go.Value.string r, Go.Value.string r_1] (Go.World.drew w') fun (v : Go.Value) (w' : Go.World) => ∃ (x_11 : Int), v = Go.Value.int Go.IntKind.i64 x_11 ∧ ∃ (S' : Go.World
 → Prop), (∀ (u : Go.World), S' u → S u) ∧ S' w' ∧ Go.Sx.CallsV Go.Proofs.Try.prog (20 : Nat) #[Go.Value.slice (Go.Sx.cutAt a_A a_c (0 : Nat) (3 : Nat)) (Int.toNat (if (↑b_n : Int) < (↑a_n : Int) then
 (↑b_n : Int) else (↑a_n : Int)) - (0 : Nat)) (a_c - (0 : Nat)), Go.Value.slice (Go.Sx.cutAt b_A b_c (0 : Nat) (3 : Nat)) (Int.toNat (if (↑b_n : Int) < (↑a_n : Int) then (↑b_n : Int) else (↑a_n : Int))
 - (0 : Nat)) (b_c - (0 : Nat)), Go.Value.slice x x_1 x_2] w' fun (v : Go.Value) (w' : Go.World) => ∃ (x : Int), v = Go.Value.int Go.IntKind.i64 x ∧ ∃ (S'_1 : Go.World → Prop), (∀ (u : Go.World), S'_1 u
 → S' u) ∧ S'_1 w' ∧ bif Decidable.decide (x_11 = x) then Go.Sx.CallsV Go.Proofs.Try.prog (12 : Nat) #[] w' fun (v : Go.Value) (w' : Go.World) => ∃ (x : Bool), v = Go.Value.bool x ∧ ∃ (S' : Go.World →
 Prop), (∀ (u : Go.World), S' u → S'_1 u) ∧ S' w' ∧ K (Go.Value.bool x) w' else K (Go.Value.bool Bool.false) w' else K (Go.Value.bool Bool.false) (Go.World.drew w') else K (Go.Value.bool Bool.false)
 (Go.World.drew w')
theorem cardindexlaw03_RecordOrder.eq (a_A : Option Addr) (a_n : Nat) (a_c : Nat) (b_A : Option Addr) (b_n : Nat) (b_c : Nat) (l_A : Option Addr) (l_n : Nat) (l_c : Nat) (w : World) (K : Value → World → Prop) : cardindexlaw03_RecordOrder.W a_A a_n a_c b_A b_n b_c l_A l_n l_c w K = fnW Try.prog Try.f6 .auto [.slice a_A a_n a_c, .slice b_A b_n b_c, .slice l_A l_n l_c] w K := by kernel_rfl
theorem cardindexlaw03_RecordOrder.calls (ok : Okay Try.prog) {a_A : Option Addr} {a_n : Nat} {a_c : Nat} {b_A : Option Addr} {b_n : Nat} {b_c : Nat} {l_A : Option Addr} {l_n : Nat} {l_c : Nat} {w : World} {K : Value → World → Prop} (h : cardindexlaw03_RecordOrder.W a_A a_n a_c b_A b_n b_c l_A l_n l_c w K) : CallsV Try.prog 6 #[.slice a_A a_n a_c, .slice b_A b_n b_c, .slice l_A l_n l_c] w K :=
  fnW_calls ok Try.func6 (an := .auto) (args := [.slice a_A a_n a_c, .slice b_A b_n b_c, .slice l_A l_n l_c]) (by rw [← cardindexlaw03_RecordOrder.eq]; exact h)
noncomputable def cardindexlaw03_rows.W : Option Addr → Nat → Nat → Option Addr → Nat → Nat → Option Addr → Nat → Nat → World → (Value → World → Prop) → Prop := fun (a_A : Option Go.Addr) (a_n a_c :
 Nat) (b_A : Option Go.Addr) (b_n b_c : Nat) (desc_A : Option Go.Addr) (desc_n desc_c : Nat) (w : Go.World) (K : Go.Value → Go.World → Prop) => ∃ (I : Int → Go.World → Prop), ∃ (μ : Int → Go.World →
 Nat), I (0 : Int) w ∧ ∀ (x : Int) (w : Go.World), I x w → bif Decidable.decide (x < (↑a_n : Int)) then ∃ (S : Go.World → Prop), S (Go.World.drew w) ∧ ∃ (ad : Go.Addr), a_A = Option.some ad ∧ ((0 : Int)
 ≤ x ∧ x < (↑a_n : Int)) ∧ ∃ (x_1 : Int), (∀ (u : Go.World), S u → Go.World.cell? u (Go.Addr.add (Go.Addr.add ad (Int.toNat x * (3 : Nat))) (0 : Nat)) = Option.some (Go.Value.int Go.IntKind.u8 x_1)) ∧ ∃
 (x_2 : Int), (∀ (u : Go.World), S u → Go.World.cell? u (Go.Addr.add (Go.Addr.add ad (Int.toNat x * (3 : Nat))) ((0 : Nat) + (1 : Nat))) = Option.some (Go.Value.int Go.IntKind.i64 x_2)) ∧ ∃ (x_3 :
 ByteArray), (∀ (u : Go.World), S u → Go.World.cell? u (Go.Addr.add (Go.Addr.add ad (Int.toNat x * (3 : Nat))) ((0 : Nat) + (1 : Nat) + (1 : Nat))) = Option.some (Go.Value.string x_3)) ∧ ∃ (ad :
 Go.Addr), b_A = Option.some ad ∧ ((0 : Int) ≤ x ∧ x < (↑b_n : Int)) ∧ ∃ (x_4 : Int), (∀ (u : Go.World), S u → Go.World.cell? u (Go.Addr.add (Go.Addr.add ad (Int.toNat x * (3 : Nat))) (0 : Nat)) =
 Option.some (Go.Value.int Go.IntKind.u8 x_4)) ∧ ∃ (x_5 : Int), (∀ (u : Go.World), S u → Go.World.cell? u (Go.Addr.add (Go.Addr.add ad (Int.toNat x * (3 : Nat))) ((0 : Nat) + (1 : Nat))) = Option.some
 (Go.Value.int Go.IntKind.i64 x_5)) ∧ ∃ (x_6 : ByteArray), (∀ (u : Go.World), S u → Go.World.cell? u (Go.Addr.add (Go.Addr.add ad (Int.toNat x * (3 : Nat))) ((0 : Nat) + (1 : Nat) + (1 : Nat))) =
 Option.some (Go.Value.string x_6)) ∧ Go.Sx.CallsV Go.Proofs.Try.prog (46 : Nat) #[Go.Value.agg #[Go.Value.int Go.IntKind.u8 x_1, Go.Value.int Go.IntKind.i64 x_2, Go.Value.string x_3], Go.Value.agg
 #[Go.Value.int Go.IntKind.u8 x_4, Go.Value.int Go.IntKind.i64 x_5, Go.Value.string x_6]] (Go.World.drew w) fun (v : Go.Value) (w' : Go.World) => ∃ (x_7 : Int), v = Go.Value.int Go.IntKind.i64 x_7 ∧ ∃
 (S' : Go.World → Prop), (∀ (u : Go.World), S' u → S u) ∧ S' w' ∧ bif !Decidable.decide (x_7 = (0 : Int)) then ∃ (ad : Go.Addr), desc_A = Option.some ad ∧ ((0 : Int) ≤ x ∧ x < (↑desc_n : Int)) ∧ ∃ (x_8
 : Bool), Go.World.cell? w' (Go.Addr.add ad (Int.toNat x * (1 : Nat))) = Option.some (Go.Value.bool x_8) ∧ bif x_8 then K (Go.Value.int Go.IntKind.i64 (Go.IntKind.wrap Go.IntKind.i64 ((0 : Int) - x_7)))
 w' else K (Go.Value.int Go.IntKind.i64 x_7) w' else I (Go.IntKind.wrap Go.IntKind.i64 (x + (1 : Int))) w' ∧ μ (Go.IntKind.wrap Go.IntKind.i64 (x + (1 : Int))) w' < μ x w else K (Go.Value.int
 Go.IntKind.i64 (0 : Int)) w
theorem cardindexlaw03_rows.eq (a_A : Option Addr) (a_n : Nat) (a_c : Nat) (b_A : Option Addr) (b_n : Nat) (b_c : Nat) (desc_A : Option Addr) (desc_n : Nat) (desc_c : Nat) (w : World) (K : Value → World → Prop) : cardindexlaw03_rows.W a_A a_n a_c b_A b_n b_c desc_A desc_n desc_c w K = fnW Try.prog Try.f20 (.seq .auto (.seq (.seq .auto (.block (.loop [(11, .one (.int .i64))] .auto))) .auto)) [.slice a_A a_n a_c, .slice b_A b_n b_c, .slice desc_A desc_n desc_c] w K := by kernel_rfl
theorem cardindexlaw03_rows.calls (ok : Okay Try.prog) {a_A : Option Addr} {a_n : Nat} {a_c : Nat} {b_A : Option Addr} {b_n : Nat} {b_c : Nat} {desc_A : Option Addr} {desc_n : Nat} {desc_c : Nat} {w : World} {K : Value → World → Prop} (h : cardindexlaw03_rows.W a_A a_n a_c b_A b_n b_c desc_A desc_n desc_c w K) : CallsV Try.prog 20 #[.slice a_A a_n a_c, .slice b_A b_n b_c, .slice desc_A desc_n desc_c] w K :=
  fnW_calls ok Try.func20 (an := (.seq .auto (.seq (.seq .auto (.block (.loop [(11, .one (.int .i64))] .auto))) .auto))) (args := [.slice a_A a_n a_c, .slice b_A b_n b_c, .slice desc_A desc_n desc_c]) (by rw [← cardindexlaw03_rows.eq]; exact h)
end Go.Proofs.Ytpaockbhbdeekaa
