/- The preconditions of Go functions, printed by a program of this workplace (nests.py); each is proved to be the engine's own. -/
import Derived.Test.YtpaockbhbdeekaaProg
import Derived.Test.YtpaockbhbdeekaaSxWp
set_option linter.unusedVariables false
set_option maxRecDepth 100000
namespace Go.Proofs.Ytpaockbhbdeekaa
open Go Go.Sx
noncomputable def cardindexlaw03_RecordTells.W : Option Addr → Nat → Nat → Option Addr → Nat → Nat → Option Addr → Nat → Nat → World → (Value → World → Prop) → Prop := fun (row_A : Option Go.Addr)
 (row_n row_c : Nat) (desc_A : Option Go.Addr) (desc_n desc_c : Nat) (b_A : Option Go.Addr) (b_n b_c : Nat) (w : Go.World) (K : Go.Value → Go.World → Prop) => Go.Sx.CallsV Go.Proofs.Try.prog (21 : Nat)
 #[Go.Value.slice row_A row_n row_c, Go.Value.int Go.IntKind.i64 (250 : Int), Go.Value.int Go.IntKind.i64 (300 : Int)] w fun (v : Go.Value) (w' : Go.World) => ∃ (x : Bool), v = Go.Value.bool x ∧ bif !x
 then Go.Sx.CallsV Go.Proofs.Try.prog (12 : Nat) #[] w' fun (v : Go.Value) (w' : Go.World) => ∃ (x : Bool), v = Go.Value.bool x ∧ K (Go.Value.bool x) w' else bif Decidable.decide ((300 : Int) < (↑desc_n
 : Int)) then Go.Sx.CallsV Go.Proofs.Try.prog (12 : Nat) #[] w' fun (v : Go.Value) (w' : Go.World) => ∃ (x : Bool), v = Go.Value.bool x ∧ K (Go.Value.bool x) w' else bif Decidable.decide ((3000 : Int) <
 (↑b_n : Int)) then Go.Sx.CallsV Go.Proofs.Try.prog (12 : Nat) #[] w' fun (v : Go.Value) (w' : Go.World) => ∃ (x : Bool), v = Go.Value.bool x ∧ K (Go.Value.bool x) w' else Go.Sx.CallsV
 Go.Proofs.Try.prog (18 : Nat) #[Go.Value.slice row_A row_n row_c] w' fun (v : Go.Value) (w' : Go.World) => ∃ (x : Option Go.Addr), ∃ (x_1 : Nat), ∃ (x_2 : Nat), v = Go.Value.slice x x_1 x_2 ∧
 Go.Sx.CallsV Go.Proofs.Try.prog (16 : Nat) #[Go.Value.slice b_A b_n b_c] w' fun (v : Go.Value) (w' : Go.World) => ∃ (x_3 : Option Go.Addr), ∃ (x_4 : Nat), ∃ (x_5 : Nat), v = Go.Value.slice x_3 x_4 x_5
 ∧ Go.Sx.CallsV Go.Proofs.Try.prog (17 : Nat) #[Go.Value.slice x x_1 x_2] w' fun (v : Go.Value) (w' : Go.World) => ∃ (x_6 : Option Go.Addr), ∃ (x_7 : Nat), ∃ (x_8 : Nat), ∃ (x_9 : Int), v =
 Go.Value.tuple #[Go.Value.slice x_6 x_7 x_8, Go.Value.int Go.IntKind.i64 x_9] ∧ Go.Sx.CallsV Go.Proofs.Try.prog (22 : Nat) #[Go.Value.slice row_A row_n row_c] w' fun (v : Go.Value) (w' : Go.World) => ∃
 (x_10 : Option Go.Addr), ∃ (x_11 : Nat), ∃ (x_12 : Nat), ∃ (x_13 : Int), v = Go.Value.tuple #[Go.Value.slice x_10 x_11 x_12, Go.Value.int Go.IntKind.i64 x_13] ∧ Go.Sx.CallsV Go.Proofs.Try.prog (14 :
 Nat) #[Go.Value.slice x x_1 x_2, Go.Value.slice desc_A desc_n desc_c] w' fun (v : Go.Value) (w' : Go.World) => ∃ (x_14 : Option Go.Addr), ∃ (x_15 : Nat), ∃ (x_16 : Nat), ∃ (x_17 : Int), v =
 Go.Value.tuple #[Go.Value.slice x_14 x_15 x_16, Go.Value.int Go.IntKind.i64 x_17] ∧ Go.Sx.CallsV Go.Proofs.Try.prog (23 : Nat) #[Go.Value.slice row_A row_n row_c, Go.Value.slice desc_A desc_n desc_c]
 w' fun (v : Go.Value) (w' : Go.World) => ∃ (x_18 : Option Go.Addr), ∃ (x_19 : Nat), ∃ (x_20 : Nat), ∃ (x_21 : Int), v = Go.Value.tuple #[Go.Value.slice x_18 x_19 x_20, Go.Value.int Go.IntKind.i64 x_21]
 ∧ Go.Sx.CallsV Go.Proofs.Try.prog (24 : Nat) #[Go.Value.slice x_3 x_4 x_5] w' fun (v : Go.Value) (w' : Go.World) => ∃ (x_22 : Option Go.Addr), ∃ (x_23 : Nat), ∃ (x_24 : Nat), ∃ (x_25 : Int), v =
 Go.Value.tuple #[Go.Value.slice x_22 x_23 x_24, Go.Value.int Go.IntKind.i64 x_25] ∧ Go.Sx.CallsV Go.Proofs.Try.prog (25 : Nat) #[Go.Value.slice b_A b_n b_c] w' fun (v : Go.Value) (w' : Go.World) => ∃
 (x_26 : Option Go.Addr), ∃ (x_27 : Nat), ∃ (x_28 : Nat), ∃ (x_29 : Int), v = Go.Value.tuple #[Go.Value.slice x_26 x_27 x_28, Go.Value.int Go.IntKind.i64 x_29] ∧ Go.Sx.CallsV Go.Proofs.Try.prog (26 :
 Nat) #[Go.Value.slice x_3 x_4 x_5, Go.Value.slice desc_A desc_n desc_c] w' fun (v : Go.Value) (w' : Go.World) => ∃ (x_30 : Option Go.Addr), ∃ (x_31 : Nat), ∃ (x_32 : Nat), ∃ (x_33 : Int), v =
 Go.Value.tuple #[Go.Value.slice x_30 x_31 x_32, Go.Value.int Go.IntKind.i64 x_33] ∧ Go.Sx.CallsV Go.Proofs.Try.prog (27 : Nat) #[Go.Value.slice b_A b_n b_c, Go.Value.slice desc_A desc_n desc_c] w' fun
 (v : Go.Value) (w' : Go.World) => ∃ (x_34 : Option Go.Addr), ∃ (x_35 : Nat), ∃ (x_36 : Nat), ∃ (x_37 : Int), v = Go.Value.tuple #[Go.Value.slice x_34 x_35 x_36, Go.Value.int Go.IntKind.i64 x_37] ∧
 Go.Sx.CallsV Go.Proofs.Try.prog (15 : Nat) #[Go.Value.slice x_6 x_7 x_8, Go.Value.slice x_10 x_11 x_12] w' fun (v : Go.Value) (w' : Go.World) => ∃ (x_38 : Bool), v = Go.Value.bool x_38 ∧ bif x_38 then
 bif Decidable.decide (x_9 = x_13) then Go.Sx.CallsV Go.Proofs.Try.prog (15 : Nat) #[Go.Value.slice x_14 x_15 x_16, Go.Value.slice x_18 x_19 x_20] w' fun (v : Go.Value) (w' : Go.World) => ∃ (x_39 :
 Bool), v = Go.Value.bool x_39 ∧ bif x_39 then bif Decidable.decide (x_17 = x_21) then Go.Sx.CallsV Go.Proofs.Try.prog (28 : Nat) #[Go.Value.slice x_22 x_23 x_24, Go.Value.slice x_26 x_27 x_28] w' fun
 (v : Go.Value) (w' : Go.World) => ∃ (x_40 : Bool), v = Go.Value.bool x_40 ∧ bif x_40 then bif Decidable.decide (x_25 = x_29) then Go.Sx.CallsV Go.Proofs.Try.prog (28 : Nat) #[Go.Value.slice x_30 x_31
 x_32, Go.Value.slice x_34 x_35 x_36] w' fun (v : Go.Value) (w' : Go.World) => ∃ (x_41 : Bool), v = Go.Value.bool x_41 ∧ bif x_41 then bif Decidable.decide (x_33 = x_37) then Go.Sx.CallsV
 Go.Proofs.Try.prog (28 : Nat) #[Go.Value.slice x x_1 x_2, Go.Value.slice row_A row_n row_c] w' fun (v : Go.Value) (w' : Go.World) => ∃ (x : Bool), v = Go.Value.bool x ∧ bif x then Go.Sx.CallsV
 Go.Proofs.Try.prog (15 : Nat) #[Go.Value.slice x_3 x_4 x_5, Go.Value.slice b_A b_n b_c] w' fun (v : Go.Value) (w' : Go.World) => ∃ (x : Bool), v = Go.Value.bool x ∧ bif x then Go.Sx.CallsV
 Go.Proofs.Try.prog (12 : Nat) #[] w' fun (v : Go.Value) (w' : Go.World) => ∃ (x : Bool), v = Go.Value.bool x ∧ K (Go.Value.bool x) w' else K (Go.Value.bool Bool.false) w' else K (Go.Value.bool
 Bool.false) w' else K (Go.Value.bool Bool.false) w' else K (Go.Value.bool Bool.false) w' else K (Go.Value.bool Bool.false) w' else K (Go.Value.bool Bool.false) w' else K (Go.Value.bool Bool.false) w'
 else K (Go.Value.bool Bool.false) w' else K (Go.Value.bool Bool.false) w' else K (Go.Value.bool Bool.false) w'
theorem cardindexlaw03_RecordTells.eq (row_A : Option Addr) (row_n : Nat) (row_c : Nat) (desc_A : Option Addr) (desc_n : Nat) (desc_c : Nat) (b_A : Option Addr) (b_n : Nat) (b_c : Nat) (w : World) (K : Value → World → Prop) : cardindexlaw03_RecordTells.W row_A row_n row_c desc_A desc_n desc_c b_A b_n b_c w K = fnW Try.prog Try.f7 (.named .auto) [.slice row_A row_n row_c, .slice desc_A desc_n desc_c, .slice b_A b_n b_c] w K := by kernel_rfl
theorem cardindexlaw03_RecordTells.calls (ok : Okay Try.prog) {row_A : Option Addr} {row_n : Nat} {row_c : Nat} {desc_A : Option Addr} {desc_n : Nat} {desc_c : Nat} {b_A : Option Addr} {b_n : Nat} {b_c : Nat} {w : World} {K : Value → World → Prop} (h : cardindexlaw03_RecordTells.W row_A row_n row_c desc_A desc_n desc_c b_A b_n b_c w K) : CallsV Try.prog 7 #[.slice row_A row_n row_c, .slice desc_A desc_n desc_c, .slice b_A b_n b_c] w K :=
  fnW_calls ok Try.func7 (an := (.named .auto)) (args := [.slice row_A row_n row_c, .slice desc_A desc_n desc_c, .slice b_A b_n b_c]) (by rw [← cardindexlaw03_RecordTells.eq]; exact h)
end Go.Proofs.Ytpaockbhbdeekaa
