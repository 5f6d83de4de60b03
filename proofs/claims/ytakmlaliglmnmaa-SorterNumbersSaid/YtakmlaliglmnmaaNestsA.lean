/- The preconditions of Go functions, printed by a program of this workplace (nests.py); each is proved to be the engine's own. -/
import Derived.Test.YtakmlaliglmnmaaProg
import Derived.Test.YtakmlaliglmnmaaSxWp
set_option linter.unusedVariables false
set_option maxRecDepth 100000
namespace Go.Proofs.Ytakmlaliglmnmaa
open Go Go.Sx
noncomputable def cardindexlaw07_awake.W : World → (Value → World → Prop) → Prop := fun (w : Go.World) (K : Go.Value → Go.World → Prop) => ∀ (g : Nat) (w' : Go.World), Go.Sx.Fresh w g w' [Go.Value.int
 Go.IntKind.u8 (0 : Int), Go.Value.int Go.IntKind.i64 (0 : Int), Go.Value.string (ByteArray.mk #[])] (31 : Nat) → Go.Sx.stOK (Go.Addr.mk g (0 : Nat) Option.none) (0 : Nat) [Go.Value.int Go.IntKind.u8 (0
 : Int), Go.Value.int Go.IntKind.i64 (0 : Int), Go.Value.string (ByteArray.mk #[])] w' ∧ ∀ (w'_1 : Go.World), w'_1 = Go.Sx.setAll (Go.Addr.mk g (0 : Nat) Option.none) (0 : Nat) [Go.Value.int
 Go.IntKind.u8 (0 : Int), Go.Value.int Go.IntKind.i64 (0 : Int), Go.Value.string (ByteArray.mk #[])] w' → Go.Sx.CallsV Go.Proofs.Try.prog (14 : Nat) #[Go.Value.slice Option.none (0 : Nat) (0 : Nat),
 Go.Value.bool Bool.false] w'_1 fun (v : Go.Value) (w' : Go.World) => ∃ (x : Option Go.Addr), ∃ (x_1 : Int), v = Go.Value.tuple #[Go.Value.pointer x, Go.Value.int Go.IntKind.i64 x_1] ∧ Go.Sx.CallsV
 Go.Proofs.Try.prog (14 : Nat) #[Go.Value.slice Option.none (0 : Nat) (0 : Nat), Go.Value.bool Bool.true] w' fun (v : Go.Value) (w' : Go.World) => ∃ (x_2 : Option Go.Addr), ∃ (x_3 : Int), v =
 Go.Value.tuple #[Go.Value.pointer x_2, Go.Value.int Go.IntKind.i64 x_3] ∧ bif !Decidable.decide (x_1 = (0 : Int)) then K (Go.Value.bool Bool.false) w' else bif !Decidable.decide (x_3 = (0 : Int)) then
 K (Go.Value.bool Bool.false) w' else ∀ (g_1 : Nat) (w'_2 : Go.World), Go.Sx.Fresh w' g_1 w'_2 [Go.Value.string (ByteArray.mk #[(65 : UInt8)]), Go.Value.string (ByteArray.mk #[(66 : UInt8)]),
 Go.Value.string (ByteArray.mk #[(67 : UInt8)])] (9 : Nat) → ∃ (I : Int → Go.World → Prop), ∃ (μ : Int → Go.World → Nat), I (0 : Int) w'_2 ∧ ∀ (x_4 : Int) (w : Go.World), I x_4 w → bif Decidable.decide
 (x_4 < (↑(3 : Nat) : Int)) then ∃ (ad : Go.Addr), Option.some (Go.Addr.mk g_1 (0 : Nat) Option.none) = Option.some ad ∧ ((0 : Int) ≤ x_4 ∧ x_4 < (↑(3 : Nat) : Int)) ∧ ∃ (x_5 : ByteArray),
 Go.World.cell? w (Go.Addr.add ad (Int.toNat x_4 * (1 : Nat))) = Option.some (Go.Value.string x_5) ∧ Go.Sx.CallsV Go.Proofs.Try.prog (29 : Nat) #[Go.Value.string x_5] w fun (v : Go.Value) (w' :
 Go.World) => ∃ (x_6 : Int), ∃ (x_7 : Int), ∃ (x_8 : ByteArray), v = Go.Value.agg #[Go.Value.int Go.IntKind.u8 x_6, Go.Value.int Go.IntKind.i64 x_7, Go.Value.string x_8] ∧ ∀ (g : Nat) (w'_3 : Go.World),
 Go.Sx.Fresh w' g w'_3 [Go.Value.int Go.IntKind.u8 x_6, Go.Value.int Go.IntKind.i64 x_7, Go.Value.string x_8] (31 : Nat) → Go.Sx.CallsV Go.Proofs.Try.prog (18 : Nat) #[Go.Value.pointer x, Go.Value.slice
 Option.none (0 : Nat) (0 : Nat), Go.Value.slice (Option.some (Go.Addr.mk g (0 : Nat) Option.none)) (1 : Nat) (1 : Nat)] w'_3 fun (v : Go.Value) (w' : Go.World) => ∃ (x : Int), v = Go.Value.int
 Go.IntKind.i64 x ∧ Go.Sx.CallsV Go.Proofs.Try.prog (29 : Nat) #[Go.Value.string x_5] w' fun (v : Go.Value) (w' : Go.World) => ∃ (x : Int), ∃ (x_9 : Int), ∃ (x_10 : ByteArray), v = Go.Value.agg
 #[Go.Value.int Go.IntKind.u8 x, Go.Value.int Go.IntKind.i64 x_9, Go.Value.string x_10] ∧ ∀ (g : Nat) (w'_4 : Go.World), Go.Sx.Fresh w' g w'_4 [Go.Value.int Go.IntKind.u8 x, Go.Value.int Go.IntKind.i64
 x_9, Go.Value.string x_10] (31 : Nat) → Go.Sx.CallsV Go.Proofs.Try.prog (18 : Nat) #[Go.Value.pointer x_2, Go.Value.slice Option.none (0 : Nat) (0 : Nat), Go.Value.slice (Option.some (Go.Addr.mk g (0 :
 Nat) Option.none)) (1 : Nat) (1 : Nat)] w'_4 fun (v : Go.Value) (w' : Go.World) => ∃ (x : Int), v = Go.Value.int Go.IntKind.i64 x ∧ I (Go.IntKind.wrap Go.IntKind.i64 (x_4 + (1 : Int))) w' ∧ μ
 (Go.IntKind.wrap Go.IntKind.i64 (x_4 + (1 : Int))) w' < μ x_4 w else Go.Sx.CallsV Go.Proofs.Try.prog (22 : Nat) #[Go.Value.pointer x] w fun (v : Go.Value) (w' : Go.World) => ∃ (x_5 : Option Go.Addr), ∃
 (x_6 : Nat), ∃ (x_7 : Nat), ∃ (x_8 : Bool), v = Go.Value.tuple #[Go.Value.slice x_5 x_6 x_7, Go.Value.bool x_8] ∧ Go.Sx.CallsV Go.Proofs.Try.prog (20 : Nat) #[Go.Value.pointer x] w' fun (v : Go.Value)
 (w' : Go.World) => ∃ (x_9 : Int), v = Go.Value.int Go.IntKind.i64 x_9 ∧ Go.Sx.CallsV Go.Proofs.Try.prog (20 : Nat) #[Go.Value.pointer x_2] w' fun (v : Go.Value) (w' : Go.World) => ∃ (x_10 : Int), v =
 Go.Value.int Go.IntKind.i64 x_10 ∧ ∃ (S : Go.World → Prop), S (Go.World.drew w') ∧ ∃ (x_11 : Int), (∀ (u : Go.World), S u → Go.World.cell? u (Go.Addr.add (Go.Addr.mk g (0 : Nat) Option.none) (0 : Nat))
 = Option.some (Go.Value.int Go.IntKind.u8 x_11)) ∧ ∃ (x_12 : Int), (∀ (u : Go.World), S u → Go.World.cell? u (Go.Addr.add (Go.Addr.mk g (0 : Nat) Option.none) ((0 : Nat) + (1 : Nat))) = Option.some
 (Go.Value.int Go.IntKind.i64 x_12)) ∧ ∃ (x_13 : ByteArray), (∀ (u : Go.World), S u → Go.World.cell? u (Go.Addr.add (Go.Addr.mk g (0 : Nat) Option.none) ((0 : Nat) + (1 : Nat) + (1 : Nat))) =
 Option.some (Go.Value.string x_13)) ∧ Go.Sx.CallsV Go.Proofs.Try.prog (28 : Nat) #[Go.Value.int Go.IntKind.i64 (2 : Int)] (Go.World.drew w') fun (v : Go.Value) (w' : Go.World) => ∃ (x_14 : Int), ∃
 (x_15 : Int), ∃ (x_16 : ByteArray), v = Go.Value.agg #[Go.Value.int Go.IntKind.u8 x_14, Go.Value.int Go.IntKind.i64 x_15, Go.Value.string x_16] ∧ S w' ∧ Go.Sx.CallsV Go.Proofs.Try.prog (28 : Nat)
 #[Go.Value.int Go.IntKind.i64 (1 : Int)] w' fun (v : Go.Value) (w' : Go.World) => ∃ (x_17 : Int), ∃ (x_18 : Int), ∃ (x_19 : ByteArray), v = Go.Value.agg #[Go.Value.int Go.IntKind.u8 x_17, Go.Value.int
 Go.IntKind.i64 x_18, Go.Value.string x_19] ∧ S w' ∧ Go.Sx.CallsV Go.Proofs.Try.prog (28 : Nat) #[Go.Value.int Go.IntKind.i64 (2 : Int)] w' fun (v : Go.Value) (w' : Go.World) => ∃ (x_20 : Int), ∃ (x_21
 : Int), ∃ (x_22 : ByteArray), v = Go.Value.agg #[Go.Value.int Go.IntKind.u8 x_20, Go.Value.int Go.IntKind.i64 x_21, Go.Value.string x_22] ∧ S w' ∧ ∀ (g_2 : Nat) (w'_3 : Go.World), Go.Sx.Fresh w' g_2
 w'_3 [Go.Value.int Go.IntKind.u8 x_14, Go.Value.int Go.IntKind.i64 x_15, Go.Value.string x_16, Go.Value.int Go.IntKind.u8 x_17, Go.Value.int Go.IntKind.i64 x_18, Go.Value.string x_19, Go.Value.int
 Go.IntKind.u8 x_20, Go.Value.int Go.IntKind.i64 x_21, Go.Value.string x_22, Go.Value.int Go.IntKind.u8 x_11, Go.Value.int Go.IntKind.i64 x_12, Go.Value.string x_13] (31 : Nat) → Go.Sx.CallsV
 Go.Proofs.Try.prog (32 : Nat) #[Go.Value.bool Bool.false, Go.Value.bool Bool.false, Go.Value.slice (Option.some (Go.Addr.mk g_2 (0 : Nat) Option.none)) (4 : Nat) (4 : Nat)] w'_3 fun (v : Go.Value) (w'
 : Go.World) => ∃ (x_23 : ByteArray), v = Go.Value.string x_23 ∧ bif ByteArray.toList x_23 == ByteArray.toList (ByteArray.mk #[(68 : UInt8), (66 : UInt8), (65 : UInt8), (67 : UInt8)]) then ∃ (S :
 Go.World → Prop), S w' ∧ ∃ (x_24 : Int), (∀ (u : Go.World), S u → Go.World.cell? u (Go.Addr.add (Go.Addr.mk g (0 : Nat) Option.none) (0 : Nat)) = Option.some (Go.Value.int Go.IntKind.u8 x_24)) ∧ ∃
 (x_25 : Int), (∀ (u : Go.World), S u → Go.World.cell? u (Go.Addr.add (Go.Addr.mk g (0 : Nat) Option.none) ((0 : Nat) + (1 : Nat))) = Option.some (Go.Value.int Go.IntKind.i64 x_25)) ∧ ∃ (x_26 :
 ByteArray), (∀ (u : Go.World), S u → Go.World.cell? u (Go.Addr.add (Go.Addr.mk g (0 : Nat) Option.none) ((0 : Nat) + (1 : Nat) + (1 : Nat))) = Option.some (Go.Value.string x_26)) ∧ Go.Sx.CallsV
 Go.Proofs.Try.prog (28 : Nat) #[Go.Value.int Go.IntKind.i64 (2 : Int)] w' fun (v : Go.Value) (w' : Go.World) => ∃ (x_27 : Int), ∃ (x_28 : Int), ∃ (x_29 : ByteArray), v = Go.Value.agg #[Go.Value.int
 Go.IntKind.u8 x_27, Go.Value.int Go.IntKind.i64 x_28, Go.Value.string x_29] ∧ S w' ∧ Go.Sx.CallsV Go.Proofs.Try.prog (28 : Nat) #[Go.Value.int Go.IntKind.i64 (1 : Int)] w' fun (v : Go.Value) (w' :
 Go.World) => ∃ (x_30 : Int), ∃ (x_31 : Int), ∃ (x_32 : ByteArray), v = Go.Value.agg #[Go.Value.int Go.IntKind.u8 x_30, Go.Value.int Go.IntKind.i64 x_31, Go.Value.string x_32] ∧ S w' ∧ Go.Sx.CallsV
 Go.Proofs.Try.prog (28 : Nat) #[Go.Value.int Go.IntKind.i64 (2 : Int)] w' fun (v : Go.Value) (w' : Go.World) => ∃ (x_33 : Int), ∃ (x_34 : Int), ∃ (x_35 : ByteArray), v = Go.Value.agg #[Go.Value.int
 Go.IntKind.u8 x_33, Go.Value.int Go.IntKind.i64 x_34, Go.Value.string x_35] ∧ S w' ∧ ∀ (g_3 : Nat) (w'_4 : Go.World), Go.Sx.Fresh w' g_3 w'_4 [Go.Value.int Go.IntKind.u8 x_27, Go.Value.int
 Go.IntKind.i64 x_28, Go.Value.string x_29, Go.Value.int Go.IntKind.u8 x_30, Go.Value.int Go.IntKind.i64 x_31, Go.Value.string x_32, Go.Value.int Go.IntKind.u8 x_33, Go.Value.int Go.IntKind.i64 x_34,
 Go.Value.string x_35, Go.Value.int Go.IntKind.u8 x_24, Go.Value.int Go.IntKind.i64 x_25, Go.Value.string x_26] (31 : Nat) → Go.Sx.CallsV Go.Proofs.Try.prog (32 : Nat) #[Go.Value.bool Bool.false,
 Go.Value.bool Bool.true, Go.Value.slice (Option.some (Go.Addr.mk g_3 (0 : Nat) Option.none)) (4 : Nat) (4 : Nat)] w'_4 fun (v : Go.Value) (w' : Go.World) => ∃ (x_36 : ByteArray), v = Go.Value.string
 x_36 ∧ bif ByteArray.toList x_36 == ByteArray.toList (ByteArray.mk #[(68 : UInt8), (66 : UInt8), (65 : UInt8)]) then ∃ (S : Go.World → Prop), S w' ∧ ∃ (x_37 : Int), (∀ (u : Go.World), S u →
 Go.World.cell? u (Go.Addr.add (Go.Addr.mk g (0 : Nat) Option.none) (0 : Nat)) = Option.some (Go.Value.int Go.IntKind.u8 x_37)) ∧ ∃ (x_38 : Int), (∀ (u : Go.World), S u → Go.World.cell? u (Go.Addr.add
 (Go.Addr.mk g (0 : Nat) Option.none) ((0 : Nat) + (1 : Nat))) = Option.some (Go.Value.int Go.IntKind.i64 x_38)) ∧ ∃ (x_39 : ByteArray), (∀ (u : Go.World), S u → Go.World.cell? u (Go.Addr.add
 (Go.Addr.mk g (0 : Nat) Option.none) ((0 : Nat) + (1 : Nat) + (1 : Nat))) = Option.some (Go.Value.string x_39)) ∧ Go.Sx.CallsV Go.Proofs.Try.prog (28 : Nat) #[Go.Value.int Go.IntKind.i64 (2 : Int)] w'
 fun (v : Go.Value) (w' : Go.World) => ∃ (x_40 : Int), ∃ (x_41 : Int), ∃ (x_42 : ByteArray), v = Go.Value.agg #[Go.Value.int Go.IntKind.u8 x_40, Go.Value.int Go.IntKind.i64 x_41, Go.Value.string x_42] ∧
 S w' ∧ Go.Sx.CallsV Go.Proofs.Try.prog (28 : Nat) #[Go.Value.int Go.IntKind.i64 (1 : Int)] w' fun (v : Go.Value) (w' : Go.World) => ∃ (x_43 : Int), ∃ (x_44 : Int), ∃ (x_45 : ByteArray), v =
 Go.Value.agg #[Go.Value.int Go.IntKind.u8 x_43, Go.Value.int Go.IntKind.i64 x_44, Go.Value.string x_45] ∧ S w' ∧ Go.Sx.CallsV Go.Proofs.Try.prog (28 : Nat) #[Go.Value.int Go.IntKind.i64 (2 : Int)] w'
 fun (v : Go.Value) (w' : Go.World) => ∃ (x_46 : Int), ∃ (x_47 : Int), ∃ (x_48 : ByteArray), v = Go.Value.agg #[Go.Value.int Go.IntKind.u8 x_46, Go.Value.int Go.IntKind.i64 x_47, Go.Value.string x_48] ∧
 S w' ∧ ∀ (g : Nat) (w'_5 : Go.World), Go.Sx.Fresh w' g w'_5 [Go.Value.int Go.IntKind.u8 x_40, Go.Value.int Go.IntKind.i64 x_41, Go.Value.string x_42, Go.Value.int Go.IntKind.u8 x_43, Go.Value.int
 Go.IntKind.i64 x_44, Go.Value.string x_45, Go.Value.int Go.IntKind.u8 x_46, Go.Value.int Go.IntKind.i64 x_47, Go.Value.string x_48, Go.Value.int Go.IntKind.u8 x_37, Go.Value.int Go.IntKind.i64 x_38,
 Go.Value.string x_39] (31 : Nat) → Go.Sx.CallsV Go.Proofs.Try.prog (32 : Nat) #[Go.Value.bool Bool.true, Go.Value.bool Bool.false, Go.Value.slice (Option.some (Go.Addr.mk g (0 : Nat) Option.none)) (4 :
 Nat) (4 : Nat)] w'_5 fun (v : Go.Value) (w' : Go.World) => ∃ (x_49 : ByteArray), v = Go.Value.string x_49 ∧ bif ByteArray.toList x_49 == ByteArray.toList (ByteArray.mk #[(65 : UInt8), (67 : UInt8), (66
 : UInt8), (68 : UInt8)]) then bif !x_8 then Go.Sx.CallsV Go.Proofs.Try.prog (33 : Nat) #[Go.Value.pointer x] w' fun (v : Go.Value) (w' : Go.World) => ∃ (x_50 : ByteArray), v = Go.Value.string x_50 ∧
 bif ByteArray.toList x_50 == ByteArray.toList (ByteArray.mk #[(65 : UInt8), (66 : UInt8), (67 : UInt8)]) then Go.Sx.CallsV Go.Proofs.Try.prog (33 : Nat) #[Go.Value.pointer x_2] w' fun (v : Go.Value)
 (w' : Go.World) => ∃ (x_51 : ByteArray), v = Go.Value.string x_51 ∧ bif ByteArray.toList x_51 == ByteArray.toList (ByteArray.mk #[(65 : UInt8)]) then Go.Sx.CallsV Go.Proofs.Try.prog (18 : Nat)
 #[Go.Value.pointer x, Go.Value.slice Option.none (0 : Nat) (0 : Nat), Go.Value.slice Option.none (0 : Nat) (0 : Nat)] w' fun (v : Go.Value) (w' : Go.World) => ∃ (x : Int), v = Go.Value.int
 Go.IntKind.i64 x ∧ K (Go.Value.bool (Decidable.decide (x = (70 : Int)))) w' else K (Go.Value.bool Bool.false) w' else K (Go.Value.bool Bool.false) w' else K (Go.Value.bool Bool.false) w' else K
 (Go.Value.bool Bool.false) w' else K (Go.Value.bool Bool.false) w' else K (Go.Value.bool Bool.false) w'
theorem cardindexlaw07_awake.eq  (w : World) (K : Value → World → Prop) : cardindexlaw07_awake.W  w K = fnW Try.prog Try.f11 (.named (.seq .auto (.seq .auto (.seq .auto (.seq .auto (.seq .auto (.seq (.seq .auto (.block (.loop [(27, .one (.int .i64))] .auto))) .auto))))))) [] w K := by kernel_rfl
theorem cardindexlaw07_awake.calls (ok : Okay Try.prog)  {w : World} {K : Value → World → Prop} (h : cardindexlaw07_awake.W  w K) : CallsV Try.prog 11 #[] w K :=
  fnW_calls ok Try.func11 (an := (.named (.seq .auto (.seq .auto (.seq .auto (.seq .auto (.seq .auto (.seq (.seq .auto (.block (.loop [(27, .one (.int .i64))] .auto))) .auto)))))))) (args := []) (by rw [← cardindexlaw07_awake.eq]; exact h)
end Go.Proofs.Ytakmlaliglmnmaa
