/- Part 8 of the texts of this claim: the engine, contracts, plain laws. -/
import Derived.Test.YthfagbfllheneaaGreatProg
import Derived.Test.YthfagbfllheneaaGreatZCNumbers6P2
import Derived.Test.YthfagbfllheneaaGreatZCNumbers6P7
set_option linter.unusedVariables false
set_option maxRecDepth 100000
namespace Go.Proofs.YthfagbfllheneaaGreat
open Go Go.Sx
noncomputable def undo_New.W : Int → Int → World → (Value → World → Prop) → Prop := fun (fan most : Int) (w : World) (K : Value → World → Prop) => CallsV Tryz.prog 59 #[Value.int IntKind.i64 fan,
 Value.int IntKind.i64 most] w fun (v : Value) (w' : World) => ∃ (x : Option Addr) (x_1 : Int), v = Value.tuple #[Value.pointer x, Value.int IntKind.i64 x_1] ∧ bif !decide (x_1 = (0 : Int))
 then K (Value.tuple #[Value.pointer none, Value.int IntKind.i64 x_1]) w' else ∀ (g : Nat) (w'_1 : World), Fresh w' g w'_1 [Value.pointer x, Value.slice none 0 0, Value.slice none 0
 0] 42 → K (Value.tuple #[Value.pointer (some (Addr.mk g 0 none)), Value.int IntKind.i64 (0 : Int)]) w'_1
theorem undo_New.calls (ok : Okay Tryz.prog) {fan : Int} {most : Int} {w : World} {K : Value → World → Prop} (h : undo_New.W fan most w K) : CallsV Tryz.prog 19 #[.int .i64 fan, .int .i64 most] w K :=
  fnW_calls ok Tryz.func19 (an := (.named .auto)) (args := [.int .i64 fan, .int .i64 most]) (Eq.mp (by kernel_rfl) h)
noncomputable def undo_Store_of.W : Option Addr → World → (Value → World → Prop) → Prop := fun (s : Option Addr) (w : World) (K : Value → World → Prop) => bif Option.isNone s then K (Value.pointer
 none) w else ∃ (a : Addr), s = some a ∧ ∃ (x : Option Addr), World.cell? w (Addr.add a 0) = some (Value.pointer x) ∧ K (Value.pointer x) w
theorem undo_Store_of.calls (ok : Okay Tryz.prog) {s : Option Addr} {w : World} {K : Value → World → Prop} (h : undo_Store_of.W s w K) : CallsV Tryz.prog 52 #[.pointer s] w K :=
  fnW_calls ok Tryz.func52 (an := (.named .auto)) (args := [.pointer s]) (Eq.mp (by kernel_rfl) h)
noncomputable def undo_Store_made.W : Option Addr → World → (Value → World → Prop) → Prop := fun (s : Option Addr) (w : World) (K : Value → World → Prop) => bif !Option.isNone s then ∃ (a : Addr), s =
 some a ∧ ∃ (x : Option Addr), World.cell? w (Addr.add a 0) = some (Value.pointer x) ∧ K (Value.bool !Option.isNone x) w else K (Value.bool false) w
theorem undo_Store_made.calls (ok : Okay Tryz.prog) {s : Option Addr} {w : World} {K : Value → World → Prop} (h : undo_Store_made.W s w K) : CallsV Tryz.prog 66 #[.pointer s] w K :=
  fnW_calls ok Tryz.func66 (an := (.named .auto)) (args := [.pointer s]) (Eq.mp (by kernel_rfl) h)
noncomputable def undo_Store_is.W : Option Addr → Int → World → (Value → World → Prop) → Prop := fun (s : Option Addr) (n : Int) (w : World) (K : Value → World → Prop) => CallsV Tryz.prog 66
 #[Value.pointer s] w fun (v : Value) (w' : World) => ∃ (x : Bool), v = Value.bool x ∧ bif !x then K (Value.int IntKind.i64 (1 : Int)) w' else bif decide (n < (1 : Int)) then K (Value.int
 IntKind.i64 (60 : Int)) w' else ∃ (a : Addr), s = some a ∧ ∃ (x : Option Addr) (x_1 x_2 : Nat), World.cell? w' (Addr.add a 2) = some (Value.slice x x_1 x_2) ∧ bif decide ((↑x_1
 : Int) < n) then K (Value.int IntKind.i64 (60 : Int)) w' else K (Value.int IntKind.i64 (0 : Int)) w'
theorem undo_Store_is.calls (ok : Okay Tryz.prog) {s : Option Addr} {n : Int} {w : World} {K : Value → World → Prop} (h : undo_Store_is.W s n w K) : CallsV Tryz.prog 68 #[.pointer s, .int .i64 n] w K :=
  fnW_calls ok Tryz.func68 (an := (.named .auto)) (args := [.pointer s, .int .i64 n]) (Eq.mp (by kernel_rfl) h)
noncomputable def undo_Store_Create.W : Option Addr → World → (Value → World → Prop) → Prop := fun (s : Option Addr) (w : World) (K : Value → World → Prop) => CallsV Tryz.prog 52 #[Value.pointer s] w
 fun (v : Value) (w' : World) => ∃ (x : Option Addr), v = Value.pointer x ∧ CallsV Tryz.prog 60 #[Value.pointer x] w' fun (v : Value) (w' : World) => ∃ (x x_1 : Int), v = Value.tuple #[Value.int
 IntKind.i64 x, Value.int IntKind.i64 x_1] ∧ bif decide (x_1 = (0 : Int)) then ∃ (a : Addr), s = some a ∧ ∃ (x_2 : Option Addr) (x_3 x_4 : Nat), World.cell? w' (Addr.add a 1) =
 some (Value.slice x_2 x_3 x_4) ∧ ∀ (g : Nat) (w'_1 : World), Fresh w' g w'_1 [Value.int IntKind.i64 x] 3 → ∃ (x_5 : Option Addr) (x_6 x_7 : Nat) (w' : World), RunsTo Tryz.prog (Builtin.append_
 (Array.mk [39, 39]) 39 #[Value.slice x_2 x_3 x_4, Value.slice (some (Addr.mk g 0 none)) 1 1]) w'_1 (Value.slice x_5 x_6 x_7) w' ∧ ∃ (a : Addr), s = some a ∧ stOK (Addr.add a 1) 0
 [Value.slice x_5 x_6 x_7] w' ∧ ∀ (w'_2 : World), w'_2 = setAll (Addr.add a 1) 0 [Value.slice x_5 x_6 x_7] w' → K (Value.tuple #[Value.int IntKind.i64 x, Value.int IntKind.i64 x_1]) w'_2 else K
 (Value.tuple #[Value.int IntKind.i64 x, Value.int IntKind.i64 x_1]) w'
theorem undo_Store_Create.calls (ok : Okay Tryz.prog) {s : Option Addr} {w : World} {K : Value → World → Prop} (h : undo_Store_Create.W s w K) : CallsV Tryz.prog 20 #[.pointer s] w K :=
  fnW_calls ok Tryz.func20 (an := (.named .auto)) (args := [.pointer s]) (Eq.mp (by kernel_rfl) h)
noncomputable def undo_Store_Drop.W : Option Addr → Int → World → (Value → World → Prop) → Prop := fun (s : Option Addr) (id : Int) (w : World) (K : Value → World → Prop) => ∀ (g : Nat) (w' : World),
 Fresh w g w' [Value.int IntKind.i64 id] 3 → ∃ (J : Int → World → Prop), (∀ (x : Int) (w : World), J x w → bif decide (x = (0 : Int)) then ∃ (a : Addr), s = some a ∧ ∃ (x_1 : Option
 Addr) (x_2 x_3 : Nat), World.cell? w (Addr.add a 1) = some (Value.slice x_1 x_2 x_3) ∧ CallsV Tryz.prog 55 #[Value.slice x_1 x_2 x_3] w fun (v : Value) (w' : World) => ∃ (x_4 : Option Addr) (x_5
 x_6 : Nat), v = Value.slice x_4 x_5 x_6 ∧ CallsV Tryz.prog 54 #[Value.slice x_4 x_5 x_6, Value.func (Fn.func 56) #[] #[Value.pointer (some (Addr.mk g 0 none))]] w' fun (v : Value) (w' :
 World) => ∃ (x_7 : Option Addr) (x_8 x_9 : Nat), v = Value.slice x_7 x_8 x_9 ∧ ∃ (a : Addr), s = some a ∧ stOK (Addr.add a 1) 0 [Value.slice x_7 x_8 x_9] w' ∧ ∀ (w'_1 : World), w'_1 = setAll
 (Addr.add a 1) 0 [Value.slice x_7 x_8 x_9] w' → K (Value.int IntKind.i64 x) w'_1 else K (Value.int IntKind.i64 x) w) ∧ ∃ (S : World → Prop), S (World.drew w') ∧ ∃ (x : Int), (∀ (u : World), S u →
 World.cell? u (Addr.mk g 0 none) = some (Value.int IntKind.i64 x)) ∧ CallsV Tryz.prog 52 #[Value.pointer s] (World.drew w') fun (v : Value) (w' : World) => ∃ (x_1 : Option Addr), v =
 Value.pointer x_1 ∧ S w' ∧ CallsV Tryz.prog 53 #[Value.pointer x_1, Value.int IntKind.i64 x] w' fun (v : Value) (w' : World) => ∃ (x : Int), v = Value.int IntKind.i64 x ∧ J x w'
theorem undo_Store_Drop.calls (ok : Okay Tryz.prog) {s : Option Addr} {id : Int} {w : World} {K : Value → World → Prop} (h : undo_Store_Drop.W s id w K) : CallsV Tryz.prog 15 #[.pointer s, .int .i64 id] w K :=
  fnW_calls ok Tryz.func15 (an := (.named (.seq .auto (.join [(5, .one (.int .i64))] .auto .auto)))) (args := [.pointer s, .int .i64 id]) (Eq.mp (by kernel_rfl) h)
noncomputable def undo_Store_Put.W : Option Addr → Int → Option Addr → Nat → Nat → Option Addr → Nat → Nat → World → (Value → World → Prop) → Prop := fun (s : Option Addr) (id : Int) (key_A : Option
 Addr) (key_n key_c : Nat) (val_A : Option Addr) (val_n val_c : Nat) (w : World) (K : Value → World → Prop) => CallsV Tryz.prog 52 #[Value.pointer s] w fun (v : Value) (w' : World) => ∃ (x : Option
 Addr), v = Value.pointer x ∧ CallsV Tryz.prog 61 #[Value.pointer x, Value.int IntKind.i64 id, Value.slice key_A key_n key_c, Value.slice val_A val_n val_c] w' fun (v : Value) (w' : World) => ∃ (x :
 Bool) (x_1 : Int), v = Value.tuple #[Value.bool x, Value.int IntKind.i64 x_1] ∧ K (Value.tuple #[Value.bool x, Value.int IntKind.i64 x_1]) w'
theorem undo_Store_Put.calls (ok : Okay Tryz.prog) {s : Option Addr} {id : Int} {key_A : Option Addr} {key_n : Nat} {key_c : Nat} {val_A : Option Addr} {val_n : Nat} {val_c : Nat} {w : World} {K : Value → World → Prop} (h : undo_Store_Put.W s id key_A key_n key_c val_A val_n val_c w K) : CallsV Tryz.prog 22 #[.pointer s, .int .i64 id, .slice key_A key_n key_c, .slice val_A val_n val_c] w K :=
  fnW_calls ok Tryz.func22 (an := (.named .auto)) (args := [.pointer s, .int .i64 id, .slice key_A key_n key_c, .slice val_A val_n val_c]) (Eq.mp (by kernel_rfl) h)
noncomputable def undo_Store_Delete.W : Option Addr → Int → Option Addr → Nat → Nat → World → (Value → World → Prop) → Prop := fun (s : Option Addr) (id : Int) (key_A : Option Addr) (key_n key_c : Nat)
 (w : World) (K : Value → World → Prop) => CallsV Tryz.prog 52 #[Value.pointer s] w fun (v : Value) (w' : World) => ∃ (x : Option Addr), v = Value.pointer x ∧ CallsV Tryz.prog 65 #[Value.pointer x,
 Value.int IntKind.i64 id, Value.slice key_A key_n key_c] w' fun (v : Value) (w' : World) => ∃ (x : Bool) (x_1 : Int), v = Value.tuple #[Value.bool x, Value.int IntKind.i64 x_1] ∧ K (Value.tuple
 #[Value.bool x, Value.int IntKind.i64 x_1]) w'
theorem undo_Store_Delete.calls (ok : Okay Tryz.prog) {s : Option Addr} {id : Int} {key_A : Option Addr} {key_n : Nat} {key_c : Nat} {w : World} {K : Value → World → Prop} (h : undo_Store_Delete.W s id key_A key_n key_c w K) : CallsV Tryz.prog 30 #[.pointer s, .int .i64 id, .slice key_A key_n key_c] w K :=
  fnW_calls ok Tryz.func30 (an := (.named .auto)) (args := [.pointer s, .int .i64 id, .slice key_A key_n key_c]) (Eq.mp (by kernel_rfl) h)
noncomputable def undo_Store_Get.W : Option Addr → Int → Option Addr → Nat → Nat → World → (Value → World → Prop) → Prop := fun (s : Option Addr) (id : Int) (key_A : Option Addr) (key_n key_c : Nat) (w
 : World) (K : Value → World → Prop) => CallsV Tryz.prog 52 #[Value.pointer s] w fun (v : Value) (w' : World) => ∃ (x : Option Addr), v = Value.pointer x ∧ CallsV Tryz.prog 104 #[Value.pointer x,
 Value.int IntKind.i64 id, Value.slice key_A key_n key_c] w' fun (v : Value) (w' : World) => ∃ (x : Option Addr) (x_1 x_2 : Nat) (x_3 : Bool), v = Value.tuple #[Value.slice x x_1 x_2, Value.bool x_3] ∧
 K (Value.tuple #[Value.slice x x_1 x_2, Value.bool x_3]) w'
theorem undo_Store_Get.calls (ok : Okay Tryz.prog) {s : Option Addr} {id : Int} {key_A : Option Addr} {key_n : Nat} {key_c : Nat} {w : World} {K : Value → World → Prop} (h : undo_Store_Get.W s id key_A key_n key_c w K) : CallsV Tryz.prog 82 #[.pointer s, .int .i64 id, .slice key_A key_n key_c] w K :=
  fnW_calls ok Tryz.func82 (an := (.named .auto)) (args := [.pointer s, .int .i64 id, .slice key_A key_n key_c]) (Eq.mp (by kernel_rfl) h)
noncomputable def undo_Store_After.W : Option Addr → Int → Option Addr → Nat → Nat → Bool → World → (Value → World → Prop) → Prop := fun (s : Option Addr) (id : Int) (key_A : Option Addr) (key_n key_c
 : Nat) (atx : Bool) (w : World) (K : Value → World → Prop) => CallsV Tryz.prog 52 #[Value.pointer s] w fun (v : Value) (w' : World) => ∃ (x : Option Addr), v = Value.pointer x ∧ CallsV Tryz.prog 72
 #[Value.pointer x, Value.int IntKind.i64 id, Value.slice key_A key_n key_c, Value.bool atx] w' fun (v : Value) (w' : World) => ∃ (x : Option Addr) (x_1 x_2 : Nat) (x_3 : Option Addr) (x_4 x_5 : Nat)
 (x_6 : Bool), v = Value.tuple #[Value.slice x x_1 x_2, Value.slice x_3 x_4 x_5, Value.bool x_6] ∧ K (Value.tuple #[Value.slice x x_1 x_2, Value.slice x_3 x_4 x_5, Value.bool x_6]) w'
theorem undo_Store_After.calls (ok : Okay Tryz.prog) {s : Option Addr} {id : Int} {key_A : Option Addr} {key_n : Nat} {key_c : Nat} {atx : Bool} {w : World} {K : Value → World → Prop} (h : undo_Store_After.W s id key_A key_n key_c atx w K) : CallsV Tryz.prog 42 #[.pointer s, .int .i64 id, .slice key_A key_n key_c, .bool atx] w K :=
  fnW_calls ok Tryz.func42 (an := (.named .auto)) (args := [.pointer s, .int .i64 id, .slice key_A key_n key_c, .bool atx]) (Eq.mp (by kernel_rfl) h)
noncomputable def undo_Store_Before.W : Option Addr → Int → Option Addr → Nat → Nat → Bool → World → (Value → World → Prop) → Prop := fun (s : Option Addr) (id : Int) (key_A : Option Addr) (key_n key_c
 : Nat) (atx : Bool) (w : World) (K : Value → World → Prop) => CallsV Tryz.prog 52 #[Value.pointer s] w fun (v : Value) (w' : World) => ∃ (x : Option Addr), v = Value.pointer x ∧ CallsV Tryz.prog 73
 #[Value.pointer x, Value.int IntKind.i64 id, Value.slice key_A key_n key_c, Value.bool atx] w' fun (v : Value) (w' : World) => ∃ (x : Option Addr) (x_1 x_2 : Nat) (x_3 : Option Addr) (x_4 x_5 : Nat)
 (x_6 : Bool), v = Value.tuple #[Value.slice x x_1 x_2, Value.slice x_3 x_4 x_5, Value.bool x_6] ∧ K (Value.tuple #[Value.slice x x_1 x_2, Value.slice x_3 x_4 x_5, Value.bool x_6]) w'
theorem undo_Store_Before.calls (ok : Okay Tryz.prog) {s : Option Addr} {id : Int} {key_A : Option Addr} {key_n : Nat} {key_c : Nat} {atx : Bool} {w : World} {K : Value → World → Prop} (h : undo_Store_Before.W s id key_A key_n key_c atx w K) : CallsV Tryz.prog 45 #[.pointer s, .int .i64 id, .slice key_A key_n key_c, .bool atx] w K :=
  fnW_calls ok Tryz.func45 (an := (.named .auto)) (args := [.pointer s, .int .i64 id, .slice key_A key_n key_c, .bool atx]) (Eq.mp (by kernel_rfl) h)
noncomputable def undo_Store_Last.W : Option Addr → Int → World → (Value → World → Prop) → Prop := fun (s : Option Addr) (id : Int) (w : World) (K : Value → World → Prop) => CallsV Tryz.prog 52
 #[Value.pointer s] w fun (v : Value) (w' : World) => ∃ (x : Option Addr), v = Value.pointer x ∧ CallsV Tryz.prog 75 #[Value.pointer x, Value.int IntKind.i64 id] w' fun (v : Value) (w' : World) => ∃ (x
 : Option Addr) (x_1 x_2 : Nat) (x_3 : Option Addr) (x_4 x_5 : Nat) (x_6 : Bool), v = Value.tuple #[Value.slice x x_1 x_2, Value.slice x_3 x_4 x_5, Value.bool x_6] ∧ K (Value.tuple #[Value.slice x x_1
 x_2, Value.slice x_3 x_4 x_5, Value.bool x_6]) w'
theorem undo_Store_Last.calls (ok : Okay Tryz.prog) {s : Option Addr} {id : Int} {w : World} {K : Value → World → Prop} (h : undo_Store_Last.W s id w K) : CallsV Tryz.prog 50 #[.pointer s, .int .i64 id] w K :=
  fnW_calls ok Tryz.func50 (an := (.named .auto)) (args := [.pointer s, .int .i64 id]) (Eq.mp (by kernel_rfl) h)
noncomputable def undo_Store_Trees.W : Option Addr → World → (Value → World → Prop) → Prop := fun (s : Option Addr) (w : World) (K : Value → World → Prop) => bif Option.isNone s then K (Value.slice
 none 0 0) w else ∃ (a : Addr), s = some a ∧ ∃ (x : Option Addr) (x_1 x_2 : Nat), World.cell? w (Addr.add a 1) = some (Value.slice x x_1 x_2) ∧ CallsV Tryz.prog 55 #[Value.slice x
 x_1 x_2] w fun (v : Value) (w' : World) => ∃ (x : Option Addr) (x_3 x_4 : Nat), v = Value.slice x x_3 x_4 ∧ K (Value.slice x x_3 x_4) w'
theorem undo_Store_Trees.calls (ok : Okay Tryz.prog) {s : Option Addr} {w : World} {K : Value → World → Prop} (h : undo_Store_Trees.W s w K) : CallsV Tryz.prog 49 #[.pointer s] w K :=
  fnW_calls ok Tryz.func49 (an := (.named .auto)) (args := [.pointer s]) (Eq.mp (by kernel_rfl) h)
noncomputable def undo_Store_Check.W : Option Addr → World → (Value → World → Prop) → Prop := fun (s : Option Addr) (w : World) (K : Value → World → Prop) => CallsV Tryz.prog 52 #[Value.pointer s] w
 fun (v : Value) (w' : World) => ∃ (x : Option Addr), v = Value.pointer x ∧ CallsV Tryz.prog 76 #[Value.pointer x] w' fun (v : Value) (w' : World) => ∃ (x : Int), v = Value.int IntKind.i64 x ∧ K
 (Value.int IntKind.i64 x) w'
theorem undo_Store_Check.calls (ok : Okay Tryz.prog) {s : Option Addr} {w : World} {K : Value → World → Prop} (h : undo_Store_Check.W s w K) : CallsV Tryz.prog 51 #[.pointer s] w K :=
  fnW_calls ok Tryz.func51 (an := (.named .auto)) (args := [.pointer s]) (Eq.mp (by kernel_rfl) h)
noncomputable def undo_Store_Mark.W : Option Addr → World → (Value → World → Prop) → Prop := fun (s : Option Addr) (w : World) (K : Value → World → Prop) => CallsV Tryz.prog 66 #[Value.pointer s] w fun
 (v : Value) (w' : World) => ∃ (x : Bool), v = Value.bool x ∧ bif !x then K (Value.tuple #[Value.int IntKind.i64 (0 : Int), Value.int IntKind.i64 (1 : Int)]) w' else ∃ (a : Addr), s = some a ∧ ∃
 (x : Option Addr) (x_1 x_2 : Nat), World.cell? w' (Addr.add a 2) = some (Value.slice x x_1 x_2) ∧ bif decide ((100 : Int) ≤ (↑x_1 : Int)) then K (Value.tuple #[Value.int IntKind.i64 (0
 : Int), Value.int IntKind.i64 (5 : Int)]) w' else ∃ (J : World → Prop), (∀ (w : World), J w → ∃ (a : Addr), s = some a ∧ ∃ (x : Option Addr) (x_3 x_4 : Nat), World.cell? w (Addr.add a 2) =
 some (Value.slice x x_3 x_4) ∧ K (Value.tuple #[Value.int IntKind.i64 (↑x_3 : Int), Value.int IntKind.i64 (0 : Int)]) w) ∧ ∃ (a : Addr), s = some a ∧ ∃ (S : World → Prop), S (World.drew
 w') ∧ ∃ (x : Option Addr) (x_3 x_4 : Nat), (∀ (u : World), S u → World.cell? u (Addr.add a 2) = some (Value.slice x x_3 x_4)) ∧ ∃ (a : Addr), s = some a ∧ ∃ (x_5 : Option Addr), (∀ (u :
 World), S u → World.cell? u (Addr.add a 0) = some (Value.pointer x_5)) ∧ ∃ (a : Addr), s = some a ∧ ∃ (x_6 : Option Addr) (x_7 x_8 : Nat), (∀ (u : World), S u → World.cell? u (Addr.add a
 1) = some (Value.slice x_6 x_7 x_8)) ∧ CallsV Tryz.prog 67 #[Value.pointer x_5] (World.drew w') fun (v : Value) (w' : World) => ∃ (x_9 : Option Addr), v = Value.pointer x_9 ∧ S w' ∧ CallsV
 Tryz.prog 55 #[Value.slice x_6 x_7 x_8] w' fun (v : Value) (w' : World) => ∃ (x_10 : Option Addr) (x_11 x_12 : Nat), v = Value.slice x_10 x_11 x_12 ∧ S w' ∧ ∀ (g : Nat) (w'_1 : World), Fresh w' g w'_1
 [Value.pointer x_9, Value.slice x_10 x_11 x_12] 114 → S w'_1 ∧ ∃ (x_13 : Option Addr) (x_14 x_15 : Nat) (w' : World), RunsTo Tryz.prog (Builtin.append_ (Array.mk [40, 40]) 40 #[Value.slice x x_3 x_4,
 Value.slice (some (Addr.mk g 0 none)) 1 1]) w'_1 (Value.slice x_13 x_14 x_15) w' ∧ ∃ (a : Addr), s = some a ∧ stOK (Addr.add a 2) 0 [Value.slice x_13 x_14 x_15] w' ∧ ∀ (w'_2 :
 World), w'_2 = setAll (Addr.add a 2) 0 [Value.slice x_13 x_14 x_15] w' → J w'_2
theorem undo_Store_Mark.calls (ok : Okay Tryz.prog) {s : Option Addr} {w : World} {K : Value → World → Prop} (h : undo_Store_Mark.W s w K) : CallsV Tryz.prog 31 #[.pointer s] w K :=
  fnW_calls ok Tryz.func31 (an := (.named (.seq .auto (.seq .auto (.join [] .auto .auto))))) (args := [.pointer s]) (Eq.mp (by kernel_rfl) h)
noncomputable def undo_Store_Back.W : Option Addr → Int → World → (Value → World → Prop) → Prop := fun (s : Option Addr) (n : Int) (w : World) (K : Value → World → Prop) => CallsV Tryz.prog 68
 #[Value.pointer s, Value.int IntKind.i64 n] w fun (v : Value) (w' : World) => ∃ (x : Int), v = Value.int IntKind.i64 x ∧ bif !decide (x = (0 : Int)) then K (Value.int IntKind.i64 x) w' else ∃
 (a : Addr), s = some a ∧ ∃ (x : Option Addr) (x_1 x_2 : Nat), World.cell? w' (Addr.add a 2) = some (Value.slice x x_1 x_2) ∧ ∃ (ad : Addr), x = some ad ∧ ((0 : Int) ≤ IntKind.wrap
 IntKind.i64 (n - (1 : Int)) ∧ IntKind.wrap IntKind.i64 (n - (1 : Int)) < (↑x_1 : Int)) ∧ ∃ (x : Option Addr), World.cell? w' (Addr.add (Addr.add ad (Int.toNat (IntKind.wrap IntKind.i64 (n - (1 : Int)))
 * 2)) 0) = some (Value.pointer x) ∧ ∃ (x_3 : Option Addr) (x_4 x_5 : Nat), World.cell? w' (Addr.add (Addr.add ad (Int.toNat (IntKind.wrap IntKind.i64 (n - (1 : Int))) * 2)) 1) = some
 (Value.slice x_3 x_4 x_5) ∧ ∀ (g : Nat) (w'_1 : World), Fresh w' g w'_1 [Value.pointer none, Value.slice none 0 0] 114 → stOK (Addr.mk g 0 none) 0 [Value.pointer x, Value.slice x_3
 x_4 x_5] w'_1 ∧ ∀ (w' : World), w' = setAll (Addr.mk g 0 none) 0 [Value.pointer x, Value.slice x_3 x_4 x_5] w'_1 → ∃ (J : World → Prop), (∀ (w : World), J w → ∃ (a : Addr), s = some a ∧ ∃
 (S : World → Prop), S (World.drew w) ∧ ∃ (x : Option Addr), (∀ (u : World), S u → World.cell? u (Addr.add a 0) = some (Value.pointer x)) ∧ ∃ (x_6 : Option Addr), (∀ (u : World), S u →
 World.cell? u (Addr.add (Addr.mk g 0 none) 0) = some (Value.pointer x_6)) ∧ CallsV Tryz.prog 69 #[Value.pointer x, Value.pointer x_6] (World.drew w) fun (v : Value) (w' : World) => ∃ (x :
 Int), v = Value.int IntKind.i64 x ∧ K (Value.int IntKind.i64 x) w') ∧ ∃ (S : World → Prop), S (World.drew w') ∧ ∃ (x : Option Addr) (x_6 x_7 : Nat), (∀ (u : World), S u → World.cell? u (Addr.add
 (Addr.mk g 0 none) 1) = some (Value.slice x x_6 x_7)) ∧ ∃ (a : Addr), s = some a ∧ ∃ (x_8 : Option Addr) (x_9 x_10 : Nat), (∀ (u : World), S u → World.cell? u (Addr.add a 2) =
 some (Value.slice x_8 x_9 x_10)) ∧ ((0 : Int) ≤ IntKind.wrap IntKind.i64 (n - (1 : Int)) ∧ IntKind.wrap IntKind.i64 (n - (1 : Int)) ≤ (↑x_10 : Int)) ∧ ∃ (a : Addr), s = some a ∧ stOK
 (Addr.add a 1) 0 [Value.slice x x_6 x_7] (World.drew w') ∧ ∀ (w'_2 : World), w'_2 = setAll (Addr.add a 1) 0 [Value.slice x x_6 x_7] (World.drew w') → ∃ (a : Addr), s = some a ∧ stOK (Addr.add a
 2) 0 [Value.slice (cutAt x_8 x_10 0 2) (Int.toNat (IntKind.wrap IntKind.i64 (n - (1 : Int))) - 0) (x_10 - 0)] w'_2 ∧ ∀ (w' : World), w' = setAll (Addr.add a 2) 0 [Value.slice (cutAt x_8 x_10 0 2)
 (Int.toNat (IntKind.wrap IntKind.i64 (n - (1 : Int))) - 0) (x_10 - 0)] w'_2 → J w'
theorem undo_Store_Back.calls (ok : Okay Tryz.prog) {s : Option Addr} {n : Int} {w : World} {K : Value → World → Prop} (h : undo_Store_Back.W s n w K) : CallsV Tryz.prog 33 #[.pointer s, .int .i64 n] w K :=
  fnW_calls ok Tryz.func33 (an := (.named (.seq .auto (.seq .auto (.seq .auto (.join [] .auto .auto)))))) (args := [.pointer s, .int .i64 n]) (Eq.mp (by kernel_rfl) h)
noncomputable def undo_Store_Drop_1.W : Int → Addr → World → (Value → World → Prop) → Prop := fun (x : Int) (a1 : Addr) (w : World) (K : Value → World → Prop) => ∃ (x_1 : Int), World.cell? w a1 =
 some (Value.int IntKind.i64 x_1) ∧ K (Value.bool (decide (x = x_1))) w
theorem undo_Store_Drop_1.calls (ok : Okay Tryz.prog) {x : Int} {a1 : Addr} {w : World} {K : Value → World → Prop} (h : undo_Store_Drop_1.W x a1 w K) : CallsV Tryz.prog 56 #[.int .i64 x, .pointer (some a1)] w K :=
  fnW_calls ok Tryz.func56 (an := (.named .auto)) (args := [.int .i64 x, .pointer (some a1)]) (Eq.mp (by kernel_rfl) h)
end Go.Proofs.YthfagbfllheneaaGreat
set_option linter.unusedVariables false
set_option maxRecDepth 100000
namespace Go.Proofs.YthfagbfllheneaaGreat
open Go Go.Sx
noncomputable def slices_DeleteFunc_int_int.W : Option Addr → Nat → Nat → Value → World → (Value → World → Prop) → Prop := fun (s_A : Option Addr) (s_n s_c : Nat) (del : Value) (w : World) (K : Value →
 World → Prop) => CallsV Tryz.prog 81 #[Value.slice s_A s_n s_c, del] w fun (v : Value) (w' : World) => ∃ (x : Int), v = Value.int IntKind.i64 x ∧ bif decide (x = (-1 : Int)) then K
 (Value.slice s_A s_n s_c) w' else ∃ (I : Int → Int → World → Prop) (μ : Int → Int → World → Nat), I x (IntKind.wrap IntKind.i64 (x + (1 : Int))) w' ∧ ∀ (x x_1 : Int) (w : World), I x x_1 w → bif
 decide (x_1 < (↑s_n : Int)) then ∃ (ad : Addr), s_A = some ad ∧ ((0 : Int) ≤ x_1 ∧ x_1 < (↑s_n : Int)) ∧ ∃ (x_2 : Int), World.cell? w (Addr.add ad (Int.toNat x_1 * 1)) = some
 (Value.int IntKind.i64 x_2) ∧ ∃ (fid : Nat) (first captured : Array Value), del = Value.func (Fn.func fid) first captured ∧ bodied Tryz.prog fid = true ∧ CallsV Tryz.prog fid (List.toArray
 (Array.toList first ++ ([Value.int IntKind.i64 x_2] ++ Array.toList captured))) w fun (r : Value) (w' : World) => ∃ (x_3 : Bool), r = Value.bool x_3 ∧ bif !x_3 then ∃ (ad : Addr), s_A = some ad
 ∧ ((0 : Int) ≤ x ∧ x < (↑s_n : Int)) ∧ stOK (Addr.add ad (Int.toNat x * 1)) 0 [Value.int IntKind.i64 x_2] w' ∧ ∀ (w'_1 : World), w'_1 = setAll (Addr.add ad (Int.toNat x * 1)) 0 [Value.int IntKind.i64
 x_2] w' → I (IntKind.wrap IntKind.i64 (x + (1 : Int))) (IntKind.wrap IntKind.i64 (x_1 + (1 : Int))) w'_1 ∧ μ (IntKind.wrap IntKind.i64 (x + (1 : Int))) (IntKind.wrap IntKind.i64 (x_1 + (1 : Int))) w'_1
 < μ x x_1 w else I x (IntKind.wrap IntKind.i64 (x_1 + (1 : Int))) w' ∧ μ x (IntKind.wrap IntKind.i64 (x_1 + (1 : Int))) w' < μ x x_1 w else ((0 : Int) ≤ x ∧ x ≤ (↑s_n : Int)) ∧ ∃ (w' : World), RunsTo
 Tryz.prog (Builtin.clear_ (Array.mk [39]) 0 #[Value.slice (cutAt s_A s_c (Int.toNat x) 1) (s_n - Int.toNat x) (s_c - Int.toNat x)]) w (Value.tuple #[]) w' ∧ ((0 : Int) ≤ x ∧ x ≤ (↑s_c : Int)) ∧ K
 (Value.slice (cutAt s_A s_c 0 1) (Int.toNat x - 0) (s_c - 0)) w'
theorem slices_DeleteFunc_int_int.calls (ok : Okay Tryz.prog) {s_A : Option Addr} {s_n : Nat} {s_c : Nat} {del : Value} {w : World} {K : Value → World → Prop} (h : slices_DeleteFunc_int_int.W s_A s_n s_c del w K) : CallsV Tryz.prog 54 #[.slice s_A s_n s_c, del] w K :=
  fnW_calls ok Tryz.func54 (an := (.named (.named (.seq .auto (.seq .auto (.seq .auto (.seq (.seq .auto (.block (.loop [(5, .one (.int .i64)), (6, .one (.int .i64))] .auto))) .auto))))))) (args := [.slice s_A s_n s_c, del]) (Eq.mp (by kernel_rfl) h)
noncomputable def slices_IndexFunc_int_int.W : Option Addr → Nat → Nat → Value → World → (Value → World → Prop) → Prop := fun (s_A : Option Addr) (s_n s_c : Nat) (f : Value) (w : World) (K : Value →
 World → Prop) => ∃ (I : Int → World → Prop) (μ : Int → World → Nat), I (0 : Int) w ∧ ∀ (x : Int) (w : World), I x w → bif decide (x < (↑s_n : Int)) then ∃ (ad : Addr), s_A = some ad ∧
 ((0 : Int) ≤ x ∧ x < (↑s_n : Int)) ∧ ∃ (x_1 : Int), World.cell? w (Addr.add ad (Int.toNat x * 1)) = some (Value.int IntKind.i64 x_1) ∧ ∃ (fid : Nat) (first captured : Array Value), f =
 Value.func (Fn.func fid) first captured ∧ bodied Tryz.prog fid = true ∧ CallsV Tryz.prog fid (List.toArray (Array.toList first ++ ([Value.int IntKind.i64 x_1] ++ Array.toList captured))) w fun (r
 : Value) (w' : World) => ∃ (x_2 : Bool), r = Value.bool x_2 ∧ bif x_2 then K (Value.int IntKind.i64 x) w' else I (IntKind.wrap IntKind.i64 (x + (1 : Int))) w' ∧ μ (IntKind.wrap IntKind.i64 (x + (1 :
 Int))) w' < μ x w else K (Value.int IntKind.i64 (-1 : Int)) w
theorem slices_IndexFunc_int_int.calls (ok : Okay Tryz.prog) {s_A : Option Addr} {s_n : Nat} {s_c : Nat} {f : Value} {w : World} {K : Value → World → Prop} (h : slices_IndexFunc_int_int.W s_A s_n s_c f w K) : CallsV Tryz.prog 81 #[.slice s_A s_n s_c, f] w K :=
  fnW_calls ok Tryz.func81 (an := (.named (.named (.seq .auto (.seq (.seq .auto (.block (.loop [(8, .one (.int .i64))] .auto))) .auto))))) (args := [.slice s_A s_n s_c, f]) (Eq.mp (by kernel_rfl) h)
end Go.Proofs.YthfagbfllheneaaGreat
set_option linter.unusedVariables false
set_option linter.unusedSimpArgs false
namespace Go.Proofs.YthfagbfllheneaaGreat
open Go Go.Sx T4
abbrev KI : Kd Int := Kd.int .i64
theorem KI_pos : 0 < KI.size := by decide
theorem oneI : One KI := ⟨rfl, fun h v hv => by cases h; simp at hv; subst hv; rfl⟩
theorem itemI {Ω : Nat → Prop} {w : World} {A : Option Addr} {l : List Int} (h : Imm KI Ω w A l) {j : Nat} (hj : j < l.length) : ∃ ad, A = some ad ∧ w.cell? (ad.add (j * 1)) = some (.int .i64 l[j]) := by
  obtain ⟨ad, hA, _, cs, hr, hv⟩ := h j l[j] (List.getElem?_eq_getElem hj)
  exact ⟨ad, hA, hv 0 _ (by rw [show cs = [.int .i64 l[j]] from hr]; rfl)⟩
theorem same_spec {w : World} {b : Nat} {id : Int} (hb : Blk w b [.int .i64 id]) (x : Int) : CallsV Tryz.prog 56 #[.int .i64 x, .pointer (some ⟨b, 0, none⟩)] w fun r w' => r = .bool (decide (x = id)) ∧ w' = w := by
  refine undo_Store_Drop_1.calls okay ?_
  unfold undo_Store_Drop_1.W
  exact ⟨_, hb.cell0 rfl, rfl, rfl⟩
abbrev sameF (b : Nat) : Value := .func (.func 56) #[] #[.pointer (some ⟨b, 0, none⟩)]
theorem IndexFunc_spec {w : World} {Ω : Nat → Prop} {A : Option Addr} {c : Nat} {l : List Int} (h : Imm KI Ω w A l) (hl : l.length ≤ 1000000) {b : Nat} {id : Int} (hb : Blk w b [.int .i64 id]) :
    CallsV Tryz.prog 81 #[.slice A l.length c, sameF b] w fun r w' => w' = w ∧ ((r = .int .i64 (-1) ∧ ∀ x ∈ l, x ≠ id) ∨ ∃ j : Nat, r = iv j ∧ j < l.length ∧ l[j]? = some id ∧ ∀ k x, l[k]? = some x → k < j → x ≠ id) := by
  refine slices_IndexFunc_int_int.calls okay ?_
  unfold slices_IndexFunc_int_int.W
  refine ⟨fun x u => u = w ∧ ∃ j : Nat, x = (j : Int) ∧ j ≤ l.length ∧ ∀ k x, l[k]? = some x → k < j → x ≠ id, fun x _ => (l.length - x).toNat, ⟨rfl, 0, rfl, Nat.zero_le _, fun k x _ h => by omega⟩, ?_⟩
  rintro _ u ⟨hu, j, rfl, hj, hno⟩
  obtain rfl : w = u := hu.symm
  refine brd (fun hlt => ?_) (fun hge => ?_)
  · have hjl : j < l.length := by omega
    obtain ⟨ad, hA, hc⟩ := itemI h hjl
    refine ⟨ad, hA, ⟨by omega, by omega⟩, _, by rw [Int.toNat_natCast]; exact hc, _, _, _, rfl, by kernel_rfl, (same_spec hb _).same ⟨_, rfl, ?_⟩⟩
    refine brd (fun he => ⟨rfl, .inr ⟨j, rfl, hjl, by rw [List.getElem?_eq_getElem hjl, he], hno⟩⟩) (fun hne => ?_)
    rw [wi _ (by omega) (by omega)]
    refine ⟨⟨rfl, j + 1, by omega, by omega, fun k x hk hlt => ?_⟩, by dsimp only; omega⟩
    rcases Nat.lt_or_ge k j with h | h
    · exact hno k x hk h
    · obtain rfl : k = j := by omega
      rw [List.getElem?_eq_getElem hjl] at hk; cases hk; exact hne
  · refine ⟨rfl, .inl ⟨rfl, fun x hx => ?_⟩⟩
    obtain ⟨k, hk, rfl⟩ := List.mem_iff_getElem.1 hx
    exact hno k _ (List.getElem?_eq_getElem hk) (by omega)
theorem filter_all {l : List Int} {id : Int} (h : ∀ x ∈ l, x ≠ id) : l.filter (fun x => !decide (x = id)) = l := List.filter_eq_self.2 fun x hx => by simp [h x hx]
theorem DeleteFunc_spec {w : World} {A : Option Addr} {c : Nat} {l : List Int} (h : OwnK KI w A c l) (hl : l.length ≤ 1000000) {b : Nat} {id : Int} (hb : Blk w b [.int .i64 id]) (hAb : ¬ ownB A b) :
    CallsV Tryz.prog 54 #[.slice A l.length c, sameF b] w fun r w' => r = .slice A (l.filter (fun x => !decide (x = id))).length c ∧ OwnK KI w' A c (l.filter (fun x => !decide (x = id))) ∧ Fr (ownB A) w w' := by
  refine slices_DeleteFunc_int_int.calls okay ?_
  unfold slices_DeleteFunc_int_int.W
  refine (IndexFunc_spec (h.imm KI_pos) hl hb).mono ?_
  rintro r w' ⟨hw', hr⟩
  obtain rfl : w = w' := hw'.symm
  rcases hr with ⟨rfl, hno⟩ | ⟨i0, rfl, hi0, hid, hno⟩
  · exact ⟨_, rfl, brd (fun _ => by rw [filter_all hno]; exact ⟨rfl, h, .refl _ _⟩) fun h => absurd rfl h⟩
  · refine ⟨_, rfl, brd (fun h => by omega) fun _ => ?_⟩
    have hle : ∀ j, ((l.take j).filter (fun x => !decide (x = id))).length ≤ j := fun j => by
      have := List.length_filter_le (fun x => !decide (x = id)) (l.take j)
      rw [List.length_take] at this; omega
    have hpre : (l.take (i0 + 1)).filter (fun x => !decide (x = id)) = l.take i0 := by
      rw [List.take_add_one, hid, List.filter_append, filter_all (l := l.take i0) fun x hx => by
        obtain ⟨k, hk, rfl⟩ := List.mem_iff_getElem.1 hx
        rw [List.length_take] at hk
        rw [List.getElem_take]
        exact hno k _ (List.getElem?_eq_getElem (by omega)) (by omega)]
      simp
    refine ⟨fun x y u => ∃ (i j : Nat) (m : List Int), x = (i : Int) ∧ y = (j : Int) ∧ i < j ∧ j ≤ l.length ∧ m.length = l.length ∧ i = ((l.take j).filter (fun x => !decide (x = id))).length ∧ m.take i = (l.take j).filter (fun x => !decide (x = id)) ∧ m.drop j = l.drop j ∧ OwnK KI u A c m ∧ Fr (ownB A) w u, fun _ y _ => (l.length - y).toNat, ?_, ?_⟩
    · rw [wi _ (by omega) (by omega)]
      exact ⟨i0, i0 + 1, l, rfl, by omega, by omega, by omega, rfl, by rw [hpre, List.length_take]; omega, hpre.symm, rfl, h, .refl _ _⟩
    · rintro _ _ u ⟨i, j, m, rfl, rfl, hij, hj, hm, hi, htk, hdr, hO, hF⟩
      refine brd (fun hlt => ?_) (fun hge => ?_)
      · have hjl : j < l.length := by omega
        obtain ⟨ad, hA, hc⟩ := itemI (hO.imm KI_pos) (j := j) (by omega)
        have hmj : m[j]'(by omega) = l[j] := by
          have h1 : (m.drop j)[0]? = (l.drop j)[0]? := by rw [hdr]
          rw [List.getElem?_drop, List.getElem?_drop, Nat.add_zero, List.getElem?_eq_getElem (show j < m.length by omega), List.getElem?_eq_getElem hjl] at h1
          exact Option.some.inj h1
        rw [hmj] at hc
        have hbu : Blk u b [.int .i64 id] := hb.keep hF hAb
        refine ⟨ad, hA, ⟨by omega, by omega⟩, _, by rw [Int.toNat_natCast]; exact hc, _, _, _, rfl, by kernel_rfl, (same_spec hbu _).same ⟨_, rfl, ?_⟩⟩
        have hnext : (l.take (j + 1)).filter (fun x => !decide (x = id)) = (l.take j).filter (fun x => !decide (x = id)) ++ (if l[j] = id then [] else [l[j]]) := by
          rw [List.take_add_one, List.getElem?_eq_getElem hjl, List.filter_append]
          by_cases he : l[j] = id
          · rw [if_pos he]; simp [he]
          · rw [if_neg he]; simp [he]
        have hdr' : m.drop (j + 1) = l.drop (j + 1) := by rw [← List.drop_drop, ← List.drop_drop (l := l), hdr]
        refine brnb (fun hne => ?_) (fun he => ?_)
        · have hne : ¬ l[j] = id := of_decide_eq_false hne
          rw [if_neg hne] at hnext
          have hil : i < m.length := by omega
          obtain ⟨gA, hgA, hcell⟩ := hO.blk KI_pos hil
          rw [hA] at hgA
          cases hgA
          have hz := hcell 0 (by decide)
          have hset := hO.set (fun _ _ _ h => h) hil (a := l[j]) (cs := [.int .i64 l[j]]) rfl hA
          have hadr : ((⟨gA, 0, none⟩ : Addr).add (i * 1)) = ⟨gA, i * KI.size, none⟩ := by rw [add_new, Nat.zero_add]; rfl
          rw [wi ((i : Int) + 1) (by omega) (by omega), wi ((j : Int) + 1) (by omega) (by omega)]
          refine ⟨_, hA, ⟨by omega, by omega⟩, by rw [Int.toNat_natCast, hadr]; exact ⟨by simpa [add_zero'] using hz.1, by simpa [add_zero'] using hz.2⟩, fun u' hu' => ?_⟩
          rw [Int.toNat_natCast, hadr] at hu'
          subst hu'
          refine ⟨⟨i + 1, j + 1, m.set i l[j], by omega, by omega, by omega, by omega, by simpa using hm, ?_, ?_, ?_, hset, hF.trans (Fr.setAll _ _ _) (fun _ _ h => h) (fun k _ e => by rw [hA, ownB_some]; exact e.symm)⟩, by dsimp only; omega⟩
          · rw [hnext, List.length_append, ← hi]; rfl
          · rw [hnext, ← htk, List.take_add_one, List.getElem?_set_self hil, List.take_set_of_le (Nat.le_refl i)]; rfl
          · rw [List.drop_set_of_lt (by omega)]; exact hdr'
        · have he : l[j] = id := of_decide_eq_true he
          rw [if_pos he, List.append_nil] at hnext
          rw [wi ((j : Int) + 1) (by omega) (by omega)]
          exact ⟨⟨i, j + 1, m, rfl, by omega, by omega, by omega, hm, by rw [hnext]; exact hi, by rw [hnext]; exact htk, hdr', hO, hF⟩, by dsimp only; omega⟩
      · obtain rfl : j = l.length := by omega
        rw [List.take_length] at hi htk
        obtain ⟨u', hr', ho', f'⟩ := clear_own (P := Tryz.prog) slI (fun v hv => by simp at hv; subst hv; rfl) (ty := 0) hO (fun _ _ _ h => h) (k := i) (by omega) (c - i)
        rw [hm] at hr'
        have hc := hO.imm
        have hile : i ≤ c := by obtain ⟨xs, ho, _⟩ := hO; have := ho.le; omega
        refine ⟨⟨by omega, by omega⟩, u', by rw [Int.toNat_natCast]; exact hr', ⟨by omega, by omega⟩, ?_, ?_, hF.trans f' (fun _ _ h => h) (fun _ _ h => h)⟩
        · rw [cutAt_zero, Int.toNat_natCast, Nat.sub_zero, Nat.sub_zero, hi]
        · rw [← htk]; exact ho'
end Go.Proofs.YthfagbfllheneaaGreat
set_option linter.unusedVariables false
set_option linter.unusedSimpArgs false
namespace Go.Proofs.YthfagbfllheneaaGreat
open Go Go.Sx T4
def idsD (D : List Tr) : List Int := D.map fun d => d.r
theorem idsD_len (D : List Tr) : (idsD D).length = D.length := by simp [idsD]
structure Mk where
  sb : Nat
  MA : Option Addr
  mc : Nat
  A : Ar
  D : List Tr
def mkC (a : Mk) : List Value := [.pointer (some ⟨a.sb, 0, none⟩), .slice a.MA (idsD a.D).length a.mc]
def KMk : Kd Mk := ⟨2, fun _ _ a cs => cs = mkC a, fun h => by simp [h, mkC], fun h _ => h⟩
theorem KMk_pos : 0 < KMk.size := by decide
theorem slM : SlT Tryz.prog 40 114 2 32 [.pointer none, .slice none 0 0] := ⟨by kernel_rfl, ⟨Tryz.t114, by kernel_rfl, by kernel_rfl, by kernel_rfl, .agg #[.pointer none, .slice none 0 0], by kernel_rfl, by kernel_rfl⟩, rfl, by decide⟩
structure Ab where
  A : Ar
  D : List Tr
  ms : List (Ar × List Tr)
structure StoA (T : Nat → Prop) (u : World) (s : Nat) (q : Ab) (g : Nat) (R M : Nat → Prop) (IA : Option Addr) (ic : Nat) (X : Option Addr) (xc : Nat) (L : List Mk) (idl : List Int) : Prop where
  ar : Ar1 R M u g q.A
  inv : Inv q.A q.D
  blk : Blk u s [.pointer (some ⟨g, 0, none⟩), .slice IA idl.length ic, .slice X L.length xc]
  rT : ∀ k, R k → T k
  sT : T s
  iT : ∀ k, ownB IA k → T k
  xT : ∀ k, ownB X k → T k
  mT : ∀ x ∈ L, ∀ k, ownB x.MA k → T k
  tlt : ∀ k, T k → k < u.heap.size
  sR : ¬ R s
  iO : ∀ k, ownB IA k → ¬ R k ∧ k ≠ s
  xO : ∀ k, ownB X k → ¬ R k ∧ k ≠ s ∧ ¬ ownB IA k
  mO : ∀ x ∈ L, ∀ k, ownB x.MA k → ¬ R k ∧ k ≠ s ∧ ¬ ownB IA k ∧ ¬ ownB X k
  mD : L.Pairwise fun a b => ∀ k, ownB a.MA k → ¬ ownB b.MA k
  ids : OwnK KI u IA ic idl
  marks : OwnK KMk u X xc L
  good : ∀ x ∈ L, Sv1 (Om R M) u x.sb g x.A ∧ Inv x.A x.D ∧ x.A.fan = q.A.fan ∧ x.A.most = q.A.most ∧ OwnK KI u x.MA x.mc (idsD x.D)
  ms : L.map (fun x => (x.A, x.D)) = q.ms
  cnt : L.length ≤ 100
structure Tch (T : Nat → Prop) (u : World) (T' : Nat → Prop) (u' : World) : Prop where
  fr : Fr T u u'
  sub : ∀ k, T' k → T k ∨ u.heap.size ≤ k
theorem Tch.refl (T : Nat → Prop) (u : World) : Tch T u T u := ⟨.refl _ _, fun _ h => .inl h⟩
theorem Tch.ext {T : Nat → Prop} {u u' : World} (e : Ext u u') : Tch T u T u' := ⟨e.fr, fun _ h => .inl h⟩
theorem Tch.trans {T T' T'' : Nat → Prop} {u u' u'' : World} (h : Tch T u T' u') (h' : Tch T' u' T'' u'') : Tch T u T'' u'' :=
  ⟨h.fr.trans h'.fr (fun _ _ h => h) (fun k hk ht => (h.sub k ht).resolve_right (by omega)), fun k hk => (h'.sub k hk).elim (h.sub k) fun h2 => .inr (Nat.le_trans h.fr.size h2)⟩
theorem Tch.keepExt {T T' : Nat → Prop} {w0 u u' : World} (c : Tch T u T' u') (e : Ext w0 u) (hT : ∀ k, T k → w0.heap.size ≤ k) : Ext w0 u' ∧ ∀ k, T' k → w0.heap.size ≤ k :=
  ⟨e.trans c.fr (fun _ _ h => h) (fun k hk ht => by have := hT k ht; omega), fun k hk => (c.sub k hk).elim (hT k) fun h => Nat.le_trans e.size h⟩
theorem Tch.blk {T T' : Nat → Prop} {u u' : World} (c : Tch T u T' u') {k : Nat} {cs : List Value} (hb : Blk u k cs) (hk : ¬ T k) : Blk u' k cs ∧ ¬ T' k := ⟨hb.keep c.fr hk, fun h => (c.sub k h).elim hk fun h2 => by have := hb.lt; omega⟩
section
variable {T : Nat → Prop} {u : World} {s : Nat} {q : Ab} {g : Nat} {R M : Nat → Prop} {IA : Option Addr} {ic : Nat} {X : Option Addr} {xc : Nat} {L : List Mk} {idl : List Int}
theorem StoA.frame (h : StoA T u s q g R M IA ic X xc L idl) {S : Nat → Prop} {u' : World} (f : Fr S u u') (hS : ∀ k, k < u.heap.size → S k → ¬ T k) : StoA T u' s q g R M IA ic X xc L idl := by
  have off : ∀ k, T k → ¬ S k := fun k ht hs => hS k (h.tlt k ht) hs ht
  refine ⟨h.ar.frame f fun k hk hs hr => hS k hk hs (h.rT k hr), h.inv, h.blk.keep f (off s h.sT), h.rT, h.sT, h.iT, h.xT, h.mT, fun k hk => Nat.lt_of_lt_of_le (h.tlt k hk) f.size, h.sR, h.iO, h.xO, h.mO, h.mD, h.ids.fr f (fun k hk => off k (h.iT k hk)) (fun _ _ _ h => h), h.marks.fr f (fun k hk => off k (h.xT k hk)) (fun _ _ _ h => h), fun x hx => ?_, h.ms, h.cnt⟩
  obtain ⟨g1, g2, g3, g4, g5⟩ := h.good x hx
  exact ⟨g1.keep (f.step (fun k hk hs => .inl fun hr => hS k hk hs (h.rT k hr)) (fun _ _ h => h)), g2, g3, g4, g5.fr f (fun k hk => off k (h.mT x hx k hk)) (fun _ _ _ h => h)⟩
theorem StoA.ext (h : StoA T u s q g R M IA ic X xc L idl) {u' : World} (e : Ext u u') : StoA T u' s q g R M IA ic X xc L idl := h.frame e fun _ _ h => h.elim
theorem StoA.chg (h : StoA T u s q g R M IA ic X xc L idl) {u' : World} {A' : Ar} {D' : List Tr} {R' M' : Nat → Prop} (h' : Ar1 R' M' u' g A') (c : Chg R M u R' M' u') (hI : Inv A' D') (h1 : A'.fan = q.A.fan) (h2 : A'.most = q.A.most) :
    ∃ T', StoA T' u' s ⟨A', D', q.ms⟩ g R' M' IA ic X xc L idl ∧ Tch T u T' u' := by
  have mr := h.ar.mr
  have off : ∀ {k}, ¬ R k → ¬ M k := fun hr hm => hr (mr _ hm)
  have hs := c.fr.size
  refine ⟨fun k => T k ∨ R' k, ⟨h', hI, h.blk.keep c.fr (off h.sR), fun k hk => .inr hk, .inl h.sT, fun k hk => .inl (h.iT k hk), fun k hk => .inl (h.xT k hk), fun x hx k hk => .inl (h.mT x hx k hk), fun k hk => ?_, c.off h.blk.lt h.sR, fun k hk => ⟨c.off (h.ids.lt k hk) (h.iO k hk).1, (h.iO k hk).2⟩, fun k hk => ⟨c.off (h.marks.lt k hk) (h.xO k hk).1, (h.xO k hk).2⟩, fun x hx k hk => ⟨c.off (h.tlt k (h.mT x hx k hk)) (h.mO x hx k hk).1, (h.mO x hx k hk).2⟩, h.mD, h.ids.fr c.fr (fun k hk => off (h.iO k hk).1) (fun _ _ _ h => h), h.marks.fr c.fr (fun k hk => off (h.xO k hk).1) (fun _ _ _ h => h), fun x hx => ?_, h.ms, h.cnt⟩, ⟨c.fr.mono fun k _ hm => h.rT k (mr k hm), fun k hk => ?_⟩⟩
  · rcases hk with hk | hk
    · have := h.tlt k hk; omega
    · exact h'.lt k hk
  · obtain ⟨g1, g2, g3, g4, g5⟩ := h.good x hx
    exact ⟨g1.keep c.step, g2, g3.trans h1.symm, g4.trans h2.symm, g5.fr c.fr (fun k hk => off (h.mO x hx k hk).1) (fun _ _ _ h => h)⟩
  · rcases hk with hk | hk
    · exact .inl hk
    · exact (c.r' k hk).imp (h.rT k) id
theorem StoA.setIds (h : StoA T u s q g R M IA ic X xc L idl) {u' : World} {IA' : Option Addr} {ic' : Nat} {idl' : List Int} (ho : OwnK KI u' IA' ic' idl') (gr : Grew IA IA' u u') :
    stOK ((⟨s, 0, none⟩ : Addr).add 1) 0 [.slice IA' idl'.length ic'] u' ∧ ∀ u2, u2 = setAll ((⟨s, 0, none⟩ : Addr).add 1) 0 [.slice IA' idl'.length ic'] u' → ∃ T', StoA T' u2 s q g R M IA' ic' X xc L idl' ∧ Tch T u T' u2 := by
  have bs := h.blk.keep gr.fr (fun hk => (h.iO _ hk).2 rfl)
  obtain ⟨p1, p2⟩ := setF bs (o := 1) (by simp) (.slice IA' idl'.length ic')
  refine ⟨p1, fun u2 hu => ?_⟩
  obtain ⟨b2, f2⟩ := p2 u2 hu
  have hsz := gr.fr.size
  have hsz2 := f2.size
  -- both steps at once
  have f : Fr (fun k => ownB IA k ∨ k = s) u u2 := (gr.fr.mono fun _ _ h => .inl h).trans f2 (fun _ _ h => h) (fun _ _ h => .inr h)
  have isT : ∀ k, ownB IA k ∨ k = s → T k := fun k hk => hk.elim (h.iT k) fun e => e ▸ h.sT
  have notR : ∀ k, ownB IA k ∨ k = s → ¬ R k := fun k hk => hk.elim (fun hk => (h.iO k hk).1) fun e => e ▸ h.sR
  have new : ∀ k, ownB IA' k → ownB IA k ∨ u.heap.size ≤ k := gr.sub
  have hsl := h.blk.lt
  refine ⟨fun k => T k ∨ ownB IA' k, ⟨h.ar.frame f fun k _ hk => notR k hk, h.inv, by simpa using b2, fun k hk => .inl (h.rT k hk), .inl h.sT, fun k hk => .inr hk, fun k hk => .inl (h.xT k hk), fun x hx k hk => .inl (h.mT x hx k hk), fun k hk => ?_, h.sR, fun k hk => ?_, fun k hk => ?_, fun x hx k hk => ?_, h.mD, ho.fr f2 (fun k hk e => ?_) (fun _ _ _ h => h), h.marks.fr f (fun k hk hk' => hk'.elim (h.xO k hk).2.2 fun e => (h.xO k hk).2.1 e) (fun _ _ _ h => h), fun x hx => ?_, h.ms, h.cnt⟩, ⟨f.mono fun k _ hk => isT k hk, fun k hk => ?_⟩⟩
  · rcases hk with hk | hk
    · have := h.tlt k hk; omega
    · have := ho.lt k hk; omega
  · rcases new k hk with hk | hk
    · exact h.iO k hk
    · exact ⟨fun hr => by have := h.tlt k (h.rT k hr); omega, by omega⟩
  · refine ⟨(h.xO k hk).1, (h.xO k hk).2.1, fun hi => ?_⟩
    rcases new k hi with hi | hi
    · exact (h.xO k hk).2.2 hi
    · have := h.marks.lt k hk; omega
  · obtain ⟨m1, m2, m3, m4⟩ := h.mO x hx k hk
    refine ⟨m1, m2, fun hi => ?_, m4⟩
    rcases new k hi with hi | hi
    · exact m3 hi
    · have := h.tlt k (h.mT x hx k hk); omega
  · have e : k = s := e
    rcases new k hk with hk | hk
    · exact (h.iO k hk).2 e
    · omega
  · obtain ⟨g1, g2, g3, g4, g5⟩ := h.good x hx
    exact ⟨g1.keep (f.step (fun k _ hk => .inl (notR k hk)) (fun _ _ h => h)), g2, g3, g4, g5.fr f (fun k hk hk' => hk'.elim (h.mO x hx k hk).2.2.1 fun e => (h.mO x hx k hk).2.1 e) (fun _ _ _ h => h)⟩
  · rcases hk with hk | hk
    · exact .inl hk
    · exact (new k hk).imp (h.iT k) id
end
end Go.Proofs.YthfagbfllheneaaGreat
set_option linter.unusedVariables false
set_option linter.unusedSimpArgs false
namespace Go.Proofs.YthfagbfllheneaaGreat
open Go Go.Sx T4
def Sto (T : Nat → Prop) (u : World) (s : Nat) (q : Ab) : Prop := ∃ g R M IA ic X xc L, StoA T u s q g R M IA ic X xc L (idsD q.D)
section
variable {T : Nat → Prop} {u : World} {s : Nat} {q : Ab}
theorem Sto.ext (h : Sto T u s q) {u' : World} (e : Ext u u') : Sto T u' s q := by
  obtain ⟨g, R, M, IA, ic, X, xc, L, h⟩ := h; exact ⟨g, R, M, IA, ic, X, xc, L, h.ext e⟩
theorem Sto.frame (h : Sto T u s q) {S : Nat → Prop} {u' : World} (f : Fr S u u') (hS : ∀ k, k < u.heap.size → S k → ¬ T k) : Sto T u' s q := by
  obtain ⟨g, R, M, IA, ic, X, xc, L, h⟩ := h; exact ⟨g, R, M, IA, ic, X, xc, L, h.frame f hS⟩
theorem Sto.inv (h : Sto T u s q) : Inv q.A q.D := by obtain ⟨g, R, M, IA, ic, X, xc, L, h⟩ := h; exact h.inv
theorem Sto.lt (h : Sto T u s q) : ∀ k, T k → k < u.heap.size := by obtain ⟨g, R, M, IA, ic, X, xc, L, h⟩ := h; exact h.tlt
theorem Sto.cnt (h : Sto T u s q) : q.ms.length ≤ 100 := by obtain ⟨g, R, M, IA, ic, X, xc, L, h⟩ := h; rw [← h.ms, List.length_map]; exact h.cnt
theorem Sto.good (h : Sto T u s q) : ∀ p ∈ q.ms, Inv p.1 p.2 ∧ p.1.fan = q.A.fan ∧ p.1.most = q.A.most := by
  obtain ⟨g, R, M, IA, ic, X, xc, L, h⟩ := h
  intro p hp
  rw [← h.ms] at hp
  obtain ⟨x, hx, rfl⟩ := List.mem_map.1 hp
  obtain ⟨_, g2, g3, g4, _⟩ := h.good x hx
  exact ⟨g2, g3, g4⟩
theorem Sto.other (h : Sto T u s q) {T1 T1' : Nat → Prop} {u' : World} (c : Tch T1 u T1' u') (hd : ∀ k, T k → ¬ T1 k) : Sto T u' s q ∧ ∀ k, T k → ¬ T1' k :=
  ⟨h.frame c.fr fun k _ h1 ht => hd k ht h1, fun k hk h1 => (c.sub k h1).elim (hd k hk) fun h2 => by have := h.lt k hk; omega⟩
section
variable {g : Nat} {R M : Nat → Prop} {IA : Option Addr} {ic : Nat} {X : Option Addr} {xc : Nat} {L : List Mk} {idl : List Int}
theorem of_spec (h : StoA T u s q g R M IA ic X xc L idl) : CallsV Tryz.prog 52 #[.pointer (some ⟨s, 0, none⟩)] u fun r w' => r = .pointer (some ⟨g, 0, none⟩) ∧ w' = u := by
  refine undo_Store_of.calls okay ?_
  unfold undo_Store_of.W
  exact br (fun h => by cases h) fun _ => ⟨_, rfl, _, h.blk.cell rfl, rfl, rfl⟩
theorem smade_spec (h : StoA T u s q g R M IA ic X xc L idl) : CallsV Tryz.prog 66 #[.pointer (some ⟨s, 0, none⟩)] u fun r w' => r = .bool true ∧ w' = u := by
  refine undo_Store_made.calls okay ?_
  unfold undo_Store_made.W
  exact brnb (fun _ => ⟨_, rfl, _, h.blk.cell rfl, rfl, rfl⟩) fun h => by cases h
theorem sis_spec (h : StoA T u s q g R M IA ic X xc L idl) (n : Int) : CallsV Tryz.prog 68 #[.pointer (some ⟨s, 0, none⟩), .int .i64 n] u fun r w' => r = .int .i64 (if n < 1 ∨ (L.length : Int) < n then 60 else 0) ∧ w' = u := by
  refine undo_Store_is.calls okay ?_
  unfold undo_Store_is.W
  refine (smade_spec h).same ⟨_, rfl, brnb (fun h => by cases h) fun _ => brd (fun h1 => ?_) fun h1 => ⟨_, rfl, _, _, _, h.blk.cell rfl, brd (fun h2 => ?_) fun h2 => ?_⟩⟩
  · rw [if_pos (.inl h1)]; exact ⟨rfl, rfl⟩
  · rw [if_pos (.inr h2)]; exact ⟨rfl, rfl⟩
  · rw [if_neg (by omega)]; exact ⟨rfl, rfl⟩
end
/-! ## what it tells -/
theorem sAfter (h : Sto T u s q) (id : Int) {key : Key} {Ω : Nat → Prop} {KA : Option Addr} (hKA : Imm KB Ω u KA key) (kc : Nat) (at_ : Bool) :
    CallsV Tryz.prog 42 #[.pointer (some ⟨s, 0, none⟩), .int .i64 id, .slice KA key.length kc, .bool at_] u fun r w' => Told u ((gF (foD q.D) id).bind (aftE key at_)) r w' ∧ Ext u w' := by
  obtain ⟨g, R, M, IA, ic, X, xc, L, h⟩ := h
  refine undo_Store_After.calls okay ?_
  unfold undo_Store_After.W
  refine (of_spec h).same ⟨_, rfl, (uAfter h.ar h.inv id hKA kc at_).mono ?_⟩
  rintro _ w' ⟨ht, e⟩
  obtain ⟨A, n, c, B, m, d, f, rfl⟩ := ht.form
  exact ⟨_, _, _, _, _, _, _, rfl, ht, e⟩
theorem sBefore (h : Sto T u s q) (id : Int) {key : Key} {Ω : Nat → Prop} {KA : Option Addr} (hKA : Imm KB Ω u KA key) (kc : Nat) (at_ : Bool) :
    CallsV Tryz.prog 45 #[.pointer (some ⟨s, 0, none⟩), .int .i64 id, .slice KA key.length kc, .bool at_] u fun r w' => Told u ((gF (foD q.D) id).bind (befE key at_)) r w' ∧ Ext u w' := by
  obtain ⟨g, R, M, IA, ic, X, xc, L, h⟩ := h
  refine undo_Store_Before.calls okay ?_
  unfold undo_Store_Before.W
  refine (of_spec h).same ⟨_, rfl, (uBefore h.ar h.inv id hKA kc at_).mono ?_⟩
  rintro _ w' ⟨ht, e⟩
  obtain ⟨A, n, c, B, m, d, f, rfl⟩ := ht.form
  exact ⟨_, _, _, _, _, _, _, rfl, ht, e⟩
theorem sLast (h : Sto T u s q) (id : Int) :
    CallsV Tryz.prog 50 #[.pointer (some ⟨s, 0, none⟩), .int .i64 id] u fun r w' => Told u ((gF (foD q.D) id).bind fun es => es.getLast?) r w' ∧ Ext u w' := by
  obtain ⟨g, R, M, IA, ic, X, xc, L, h⟩ := h
  refine undo_Store_Last.calls okay ?_
  unfold undo_Store_Last.W
  refine (of_spec h).same ⟨_, rfl, (uLast h.ar h.inv id).mono ?_⟩
  rintro _ w' ⟨ht, e⟩
  obtain ⟨A, n, c, B, m, d, f, rfl⟩ := ht.form
  exact ⟨_, _, _, _, _, _, _, rfl, ht, e⟩
def GetR (u w' : World) (x : Option Key) (r : Value) : Prop := match x with
  | none => r = .tuple #[.slice none 0 0, .bool false]
  | some v => ∃ B d, r = .tuple #[.slice B v.length d, .bool true] ∧ OwnB w' B d v ∧ New u B ∧ v.length ≤ 1048576
theorem sGet (h : Sto T u s q) (id : Int) {key : Key} {Ω : Nat → Prop} {KA : Option Addr} (hKA : Imm KB Ω u KA key) (kc : Nat) :
    CallsV Tryz.prog 82 #[.pointer (some ⟨s, 0, none⟩), .int .i64 id, .slice KA key.length kc] u fun r w' => Ext u w' ∧ GetR u w' ((gF (foD q.D) id).bind (getE key)) r := by
  obtain ⟨g, R, M, IA, ic, X, xc, L, h⟩ := h
  refine undo_Store_Get.calls okay ?_
  unfold undo_Store_Get.W
  refine (of_spec h).same ⟨_, rfl, (uGet h.ar h.inv id hKA kc).mono ?_⟩
  rintro r w' ⟨e, ht⟩
  generalize (gF (foD q.D) id).bind (getE key) = x at ht
  cases x with
  | none => cases ht; exact ⟨_, _, _, _, rfl, e, rfl⟩
  | some v => obtain ⟨B, d, rfl, h2⟩ := ht; exact ⟨_, _, _, _, rfl, e, B, d, rfl, h2⟩
theorem sCheck (h : Sto T u s q) : CallsV Tryz.prog 51 #[.pointer (some ⟨s, 0, none⟩)] u fun r w' => r = .int .i64 0 ∧ Ext u w' := by
  obtain ⟨g, R, M, IA, ic, X, xc, L, h⟩ := h
  refine undo_Store_Check.calls okay ?_
  unfold undo_Store_Check.W
  refine (of_spec h).same ⟨_, rfl, (dCheck h.inv h.ar).mono ?_⟩
  rintro _ w' ⟨rfl, e⟩
  exact ⟨_, rfl, rfl, e⟩
theorem sTrees (h : Sto T u s q) : CallsV Tryz.prog 49 #[.pointer (some ⟨s, 0, none⟩)] u fun r w' => ∃ A c, r = .slice A (idsD q.D).length c ∧ OwnK KI w' A c (idsD q.D) ∧ Ext u w' ∧ New u A := by
  obtain ⟨g, R, M, IA, ic, X, xc, L, h⟩ := h
  refine undo_Store_Trees.calls okay ?_
  unfold undo_Store_Trees.W
  refine br (fun h => by cases h) fun _ => ⟨_, rfl, _, _, _, h.blk.cell rfl, (CloneI_spec oneI (h.ids.imm KI_pos) (by rw [idsD_len]; have := h.inv.cnt; omega)).mono ?_⟩
  rintro _ w' ⟨A', c', rfl, ho, e, n, _⟩
  exact ⟨_, _, _, rfl, A', c', rfl, ho, e, n⟩
end
/-! ## what changes it -/
section
variable {A : Ar} {D : List Tr}
structure PutRel (A : Ar) (D : List Tr) (id : Int) (key val : Key) (A' : Ar) (D' : List Tr) (was : Bool) (e : Int) : Prop where
  inv : Inv A' D'
  same : Same A A'
  ids : idsD D' = idsD D
  rel : (gF (foD D) id = none ∧ A' = A ∧ D' = D ∧ was = false ∧ e = 41) ∨ ∃ D1 d D2 d' full, D = D1 ++ d :: D2 ∧ d.r = id ∧ D' = D1 ++ d' :: D2 ∧ d'.r = d.r ∧ was = (!full && inE key d.es) ∧ e = (if full then 5 else 0) ∧ (full = true → A' = A ∧ d' = d ∧ inE key d.es = false ∧ A.most < A.nodes + d.h + 1) ∧ (full = false → d'.es = insE key val d.es)
theorem aPut (hI : Inv A D) (id : Int) {key val : Key} (hk : key.length ≤ 1048576) (hv : val.length ≤ 1048576) : ∃ A' D' was e, PutRel A D id key val A' D' was e ∧
    ∀ {T : Nat → Prop} {u : World} {s : Nat} {ms : List (Ar × List Tr)}, Sto T u s ⟨A, D, ms⟩ → ∀ {Ω1 Ω2 : Nat → Prop} {KA VA : Option Addr}, Imm KB Ω1 u KA key → Imm KB Ω2 u VA val → ∀ kc vc : Nat,
      CallsV Tryz.prog 22 #[.pointer (some ⟨s, 0, none⟩), .int .i64 id, .slice KA key.length kc, .slice VA val.length vc] u fun r u' => r = .tuple #[.bool was, .int .i64 e] ∧ ∃ T', Sto T' u' s ⟨A', D', ms⟩ ∧ Tch T u T' u' := by
  rcases find_split (Ds := D) (r := id) with ⟨h1, h2⟩ | ⟨D1, d, D2, rfl, rfl, h3⟩
  · refine ⟨A, D, false, 41, ⟨hI, .refl A, rfl, .inl ⟨h1, rfl, rfl, rfl, rfl⟩⟩, ?_⟩
    rintro T u s ms ⟨g, R, M, IA, ic, X, xc, L, h⟩ Ω1 Ω2 KA VA iK iV kc vc
    refine undo_Store_Put.calls okay ?_
    unfold undo_Store_Put.W
    refine (of_spec h).same ⟨_, rfl, (Put_none h.ar (by have := hI.f1; show 0 < A.fan; omega) (hI.miss h2) KA VA key.length kc val.length vc).same ⟨_, _, rfl, rfl, T, ⟨g, R, M, IA, ic, X, xc, L, h⟩, .refl _ _⟩⟩
  · obtain ⟨A', d', full, hr', hI', hs', hfu, hno, hP⟩ := dPut hI hk hv
    have hids : idsD (D1 ++ d' :: D2) = idsD (D1 ++ d :: D2) := by simp [idsD, hr']
    refine ⟨A', D1 ++ d' :: D2, _, _, ⟨hI', hs', hids, .inr ⟨D1, d, D2, d', full, rfl, rfl, rfl, hr', rfl, rfl, hfu, hno⟩⟩, ?_⟩
    rintro T u s ms ⟨g, R, M, IA, ic, X, xc, L, h⟩ Ω1 Ω2 KA VA iK iV kc vc
    refine undo_Store_Put.calls okay ?_
    unfold undo_Store_Put.W
    refine (of_spec h).same ⟨_, rfl, (hP h.ar iK iV kc vc).mono ?_⟩
    rintro _ u' ⟨rfl, R', M', h', c⟩
    obtain ⟨T', h2, c2⟩ := h.chg h' c hI' hs'.fan hs'.most
    exact ⟨_, _, rfl, rfl, T', ⟨g, R', M', IA, ic, X, xc, L, by rw [hids]; exact h2⟩, c2⟩
structure DelRel (A : Ar) (D : List Tr) (id : Int) (key : Key) (A' : Ar) (D' : List Tr) (was : Bool) (e : Int) : Prop where
  inv : Inv A' D'
  same : Same A A'
  ids : idsD D' = idsD D
  rel : (gF (foD D) id = none ∧ A' = A ∧ D' = D ∧ was = false ∧ e = 41) ∨ ∃ D1 d D2 d', D = D1 ++ d :: D2 ∧ d.r = id ∧ D' = D1 ++ d' :: D2 ∧ d'.r = d.r ∧ was = inE key d.es ∧ e = 0 ∧ d'.es = delE key d.es
theorem aDel (hI : Inv A D) (id : Int) (key : Key) : ∃ A' D' was e, DelRel A D id key A' D' was e ∧
    ∀ {T : Nat → Prop} {u : World} {s : Nat} {ms : List (Ar × List Tr)}, Sto T u s ⟨A, D, ms⟩ → ∀ {Ω1 : Nat → Prop} {KA : Option Addr}, Imm KB Ω1 u KA key → ∀ kc : Nat,
      CallsV Tryz.prog 30 #[.pointer (some ⟨s, 0, none⟩), .int .i64 id, .slice KA key.length kc] u fun r u' => r = .tuple #[.bool was, .int .i64 e] ∧ ∃ T', Sto T' u' s ⟨A', D', ms⟩ ∧ Tch T u T' u' := by
  rcases find_split (Ds := D) (r := id) with ⟨h1, h2⟩ | ⟨D1, d, D2, rfl, rfl, h3⟩
  · refine ⟨A, D, false, 41, ⟨hI, .refl A, rfl, .inl ⟨h1, rfl, rfl, rfl, rfl⟩⟩, ?_⟩
    rintro T u s ms ⟨g, R, M, IA, ic, X, xc, L, h⟩ Ω1 KA iK kc
    refine undo_Store_Delete.calls okay ?_
    unfold undo_Store_Delete.W
    refine (of_spec h).same ⟨_, rfl, (Delete_none h.ar (by have := hI.f1; show 0 < A.fan; omega) (hI.miss h2) KA key.length kc).same ⟨_, _, rfl, rfl, T, ⟨g, R, M, IA, ic, X, xc, L, h⟩, .refl _ _⟩⟩
  · obtain ⟨A', d', hr', hI', hs', he, hP⟩ := dDel hI key
    have hids : idsD (D1 ++ d' :: D2) = idsD (D1 ++ d :: D2) := by simp [idsD, hr']
    refine ⟨A', D1 ++ d' :: D2, _, _, ⟨hI', hs', hids, .inr ⟨D1, d, D2, d', rfl, rfl, rfl, hr', rfl, rfl, he⟩⟩, ?_⟩
    rintro T u s ms ⟨g, R, M, IA, ic, X, xc, L, h⟩ Ω1 KA iK kc
    refine undo_Store_Delete.calls okay ?_
    unfold undo_Store_Delete.W
    refine (of_spec h).same ⟨_, rfl, (hP h.ar iK kc).mono ?_⟩
    rintro _ u' ⟨rfl, R', M', h', c⟩
    obtain ⟨T', h2, c2⟩ := h.chg h' c hI' hs'.fan hs'.most
    exact ⟨_, _, rfl, rfl, T', ⟨g, R', M', IA, ic, X, xc, L, by rw [hids]; exact h2⟩, c2⟩
structure CreRel (A : Ar) (D : List Tr) (A' : Ar) (D' : List Tr) (n e : Int) : Prop where
  inv : Inv A' D'
  fan : A'.fan = A.fan
  most : A'.most = A.most
  rel : (A.nodes < A.most ∧ D.length < 1000 ∧ A'.last = A.last + 1 ∧ n = ((A.last + 1 : Nat) : Int) ∧ e = 0 ∧ ∃ i, D' = D ++ [⟨((A.last + 1 : Nat) : Int), i, 1, [], [i]⟩]) ∨ ((A.most ≤ A.nodes ∨ 1000 ≤ D.length) ∧ A' = A ∧ D' = D ∧ n = 0 ∧ e = 5)
theorem aCreate (hI : Inv A D) (hl : A.last < 1000000) : ∃ A' D' n e, CreRel A D A' D' n e ∧
    ∀ {T : Nat → Prop} {u : World} {s : Nat} {ms : List (Ar × List Tr)}, Sto T u s ⟨A, D, ms⟩ →
      CallsV Tryz.prog 20 #[.pointer (some ⟨s, 0, none⟩)] u fun r u' => r = .tuple #[.int .i64 n, .int .i64 e] ∧ ∃ T', Sto T' u' s ⟨A', D', ms⟩ ∧ Tch T u T' u' := by
  by_cases hroom : A.nodes < A.most ∧ D.length < 1000
  · obtain ⟨A', i, hI', hf', hm', hl', hC⟩ := dCreate hI hroom.1 hroom.2 hl
    refine ⟨A', _, _, _, ⟨hI', hf', hm', .inl ⟨hroom.1, hroom.2, hl', rfl, rfl, i, rfl⟩⟩, ?_⟩
    rintro T u s ms ⟨g, R, M, IA, ic, X, xc, L, h⟩
    refine undo_Store_Create.calls okay ?_
    unfold undo_Store_Create.W
    refine (of_spec h).same ⟨_, rfl, (hC h.ar).mono ?_⟩
    rintro _ u1 ⟨rfl, R', M', h', c⟩
    obtain ⟨T1, h1, c1⟩ := h.chg h' c hI' hf' hm'
    refine ⟨_, _, rfl, brd (fun _ => ⟨_, rfl, _, _, _, h1.blk.cell rfl, ?_⟩) fun h => absurd rfl h⟩
    rintro g2 u2 ⟨rfl, rfl⟩
    have hlen : (idsD D).length ≤ 1000 := by rw [idsD_len]; exact hI.cnt
    obtain ⟨A3, c3, u3, hr3, ho3, gr3⟩ := h1.ids.push (K := KI) slI (ty := 39) (a := ((A.last + 1 : Nat) : Int)) (cs := [.int .i64 ((A.last + 1 : Nat) : Int)]) rfl (fun v hv => by simp at hv; subst hv; rfl) (e' := 3) (by show (idsD D).length + 1 ≤ maxLen; simp only [maxLen]; omega) (by show ((idsD D).length + 1) * 8 ≤ 140737488355328; omega)
    obtain ⟨p1, p2⟩ := h1.setIds ho3 gr3
    refine ⟨_, _, _, u3, hr3, _, rfl, p1, fun u4 hu4 => ?_⟩
    obtain ⟨T4, h4, c4⟩ := p2 u4 hu4
    refine ⟨rfl, T4, ⟨g, R', M', A3, c3, X, xc, L, ?_⟩, c1.trans c4⟩
    have : idsD D ++ [((A.last + 1 : Nat) : Int)] = idsD (D ++ [⟨((A.last + 1 : Nat) : Int), i, 1, [], [i]⟩]) := by simp [idsD]
    rw [this] at h4
    exact h4
  · refine ⟨A, D, 0, 5, ⟨hI, rfl, rfl, .inr ⟨by omega, rfl, rfl, rfl, rfl⟩⟩, ?_⟩
    rintro T u s ms ⟨g, R, M, IA, ic, X, xc, L, h⟩
    refine undo_Store_Create.calls okay ?_
    unfold undo_Store_Create.W
    refine (of_spec h).same ⟨_, rfl, (dFull hI (by omega) hl h.ar).mono ?_⟩
    rintro _ u1 ⟨rfl, e1⟩
    exact ⟨_, _, rfl, brd (fun h => by cases h) fun _ => ⟨rfl, T, ⟨g, R, M, IA, ic, X, xc, L, h.ext e1⟩, .ext e1⟩⟩
structure DropRel (A : Ar) (D : List Tr) (id : Int) (A' : Ar) (D' : List Tr) (e : Int) : Prop where
  inv : Inv A' D'
  same : Same A A'
  rel : (gF (foD D) id = none ∧ A' = A ∧ D' = D ∧ e = 41) ∨ ∃ D1 d D2, D = D1 ++ d :: D2 ∧ d.r = id ∧ D' = D1 ++ D2 ∧ e = 0
theorem ids_drop {D1 D2 : List Tr} {d : Tr} (h : ((D1 ++ d :: D2).map fun d => d.r).Nodup) : (idsD (D1 ++ d :: D2)).filter (fun x => !decide (x = d.r)) = idsD (D1 ++ D2) := by
  have hn := nd_mid h
  unfold idsD
  rw [List.map_append, List.filter_append, List.map_cons, List.filter_cons_of_neg (by simp), List.map_append, filter_all, filter_all]
  · intro x hx
    obtain ⟨y, hy, rfl⟩ := List.mem_map.1 hx
    exact hn y (List.mem_append_right _ hy)
  · intro x hx
    obtain ⟨y, hy, rfl⟩ := List.mem_map.1 hx
    exact hn y (List.mem_append_left _ hy)
theorem aDrop (hI : Inv A D) (id : Int) : ∃ A' D' e, DropRel A D id A' D' e ∧
    ∀ {T : Nat → Prop} {u : World} {s : Nat} {ms : List (Ar × List Tr)}, Sto T u s ⟨A, D, ms⟩ →
      CallsV Tryz.prog 15 #[.pointer (some ⟨s, 0, none⟩), .int .i64 id] u fun r u' => r = .int .i64 e ∧ ∃ T', Sto T' u' s ⟨A', D', ms⟩ ∧ Tch T u T' u' := by
  rcases find_split (Ds := D) (r := id) with ⟨h1, h2⟩ | ⟨D1, d, D2, rfl, rfl, h3⟩
  · refine ⟨A, D, 41, ⟨hI, .refl A, .inl ⟨h1, rfl, rfl, rfl⟩⟩, ?_⟩
    rintro T u s ms ⟨g, R, M, IA, ic, X, xc, L, h⟩
    refine undo_Store_Drop.calls okay ?_
    unfold undo_Store_Drop.W
    intro gi u1 f1
    have ed : Ext u1 u1.drew := Fr.drew NoB u1
    have e2 : Ext u u1.drew := f1.ext.drew
    refine ⟨fun x v => x = 41 ∧ v = u1.drew, ?_, fun v => Ext u1 v, ed, _, fun v e => (f1.blk.ext e).cell0 rfl, (of_spec (h.ext e2)).same ⟨_, rfl, ed, (Drop_none (h.ext e2).ar (by have := hI.f1; show 0 < A.fan; omega) (hI.miss h2)).same ⟨_, rfl, rfl, rfl⟩⟩⟩
    rintro _ _ ⟨rfl, rfl⟩
    exact brd (fun h => by cases h) fun _ => ⟨rfl, T, ⟨g, R, M, IA, ic, X, xc, L, h.ext e2⟩, .ext e2⟩
  · obtain ⟨A', hI', hs', _, hP⟩ := dDrop hI
    refine ⟨A', D1 ++ D2, 0, ⟨hI', hs', .inr ⟨D1, d, D2, rfl, rfl, rfl, rfl⟩⟩, ?_⟩
    rintro T u s ms ⟨g, R, M, IA, ic, X, xc, L, h⟩
    refine undo_Store_Drop.calls okay ?_
    unfold undo_Store_Drop.W
    intro gi u1 f1
    have ed : Ext u1 u1.drew := Fr.drew NoB u1
    have e2 : Ext u u1.drew := f1.ext.drew
    have h2 := h.ext e2
    have hgi : ¬ T gi := fun ht => by have := h.tlt gi ht; have := f1.ge; omega
    refine ⟨fun x v => x = 0 ∧ ∃ R' M' T', StoA T' v s ⟨A', D1 ++ D2, ms⟩ g R' M' IA ic X xc L (idsD (D1 ++ d :: D2)) ∧ Tch T u1.drew T' v, ?_, fun v => Ext u1 v, ed, _, fun v e => (f1.blk.ext e).cell0 rfl, (of_spec h2).same ⟨_, rfl, ed, (hP h2.ar).mono ?_⟩⟩
    · rintro _ v ⟨rfl, R', M', T', h3, c3⟩
      obtain ⟨bg, hgi'⟩ := c3.blk (f1.blk.ext ed) hgi
      have hlen : (idsD (D1 ++ d :: D2)).length ≤ 1000 := by rw [idsD_len]; exact hI.cnt
      refine brd (fun _ => ⟨_, rfl, _, _, _, h3.blk.cell rfl, (CloneI_spec oneI (h3.ids.imm KI_pos) (by omega)).mono ?_⟩) fun h => absurd rfl h
      rintro _ v2 ⟨A4, c4, rfl, ho4, e4, n4, _⟩
      have ho4 : OwnK KI v2 A4 c4 (idsD (D1 ++ d :: D2)) := ho4
      refine ⟨_, _, _, rfl, (DeleteFunc_spec ho4 (by omega) (bg.ext e4) (fun hk => by have := n4 _ hk; have := bg.lt; omega)).mono ?_⟩
      rintro _ v3 ⟨rfl, ho5, f5⟩
      rw [ids_drop hI.nd] at ho5 ⊢
      have e5 : Ext v v3 := e4.trans f5 (fun _ _ h => h) (fun k hk ho => by have := n4 k ho; omega)
      obtain ⟨p1, p2⟩ := h3.setIds ho5 ⟨e5.fr, fun k hk => .inr (n4 k hk)⟩
      refine ⟨_, _, _, rfl, _, rfl, p1, fun v4 hv4 => ?_⟩
      obtain ⟨T4, h4, c4⟩ := p2 v4 hv4
      exact ⟨rfl, T4, ⟨g, R', M', A4, _, X, xc, L, h4⟩, (Tch.ext e2).trans (c3.trans c4)⟩
    · rintro _ v ⟨rfl, R', M', h', c⟩
      obtain ⟨T', h3, c3⟩ := h2.chg h' c hI' hs'.fan hs'.most
      exact ⟨_, rfl, rfl, R', M', T', h3, c3⟩
end
end Go.Proofs.YthfagbfllheneaaGreat
set_option linter.unusedVariables false
set_option linter.unusedSimpArgs false
namespace Go.Proofs.YthfagbfllheneaaGreat
open Go Go.Sx T4
section
variable {T : Nat → Prop} {u : World} {s : Nat} {q : Ab}
theorem StoA.setMarks {g : Nat} {R M : Nat → Prop} {IA : Option Addr} {ic : Nat} {X : Option Addr} {xc : Nat} {L : List Mk} {idl : List Int} (h : StoA T u s q g R M IA ic X xc L idl) {a : Mk} (g1 : Sv1 (Om R M) u a.sb g a.A) (g2 : Inv a.A a.D) (g3 : a.A.fan = q.A.fan) (g4 : a.A.most = q.A.most) (g5 : OwnK KI u a.MA a.mc (idsD a.D)) (hnew : ∀ k, ownB a.MA k → ¬ T k) (hl : L.length < 100) {u' : World} {X' : Option Addr} {xc' : Nat} (ho : OwnK KMk u' X' xc' (L ++ [a])) (gr : Grew X X' u u') :
    stOK ((⟨s, 0, none⟩ : Addr).add 2) 0 [.slice X' (L ++ [a]).length xc'] u' ∧ ∀ u2, u2 = setAll ((⟨s, 0, none⟩ : Addr).add 2) 0 [.slice X' (L ++ [a]).length xc'] u' →
      StoA (fun k => T k ∨ ownB X' k ∨ ownB a.MA k) u2 s ⟨q.A, q.D, q.ms ++ [(a.A, a.D)]⟩ g R M IA ic X' xc' (L ++ [a]) idl ∧ Fr T u u2 ∧ ∀ k, ownB X' k → T k ∨ u.heap.size ≤ k := by
  have bs := h.blk.keep gr.fr (fun hk => (h.xO _ hk).2.1 rfl)
  obtain ⟨p1, p2⟩ := setF bs (o := 2) (by simp) (.slice X' (L ++ [a]).length xc')
  refine ⟨p1, fun u2 hu => ?_⟩
  obtain ⟨b2, f2⟩ := p2 u2 hu
  have hsz := gr.fr.size
  have hsz2 := f2.size
  have f : Fr (fun k => ownB X k ∨ k = s) u u2 := (gr.fr.mono fun _ _ h => .inl h).trans f2 (fun _ _ h => h) (fun _ _ h => .inr h)
  have isT : ∀ k, ownB X k ∨ k = s → T k := fun k hk => hk.elim (h.xT k) fun e => e ▸ h.sT
  have notR : ∀ k, ownB X k ∨ k = s → ¬ R k := fun k hk => hk.elim (fun hk => (h.xO k hk).1) fun e => e ▸ h.sR
  have new : ∀ k, ownB X' k → ownB X k ∨ u.heap.size ≤ k := gr.sub
  have hsl := h.blk.lt
  have ma : ∀ k, ownB a.MA k → k < u.heap.size := g5.lt
  refine ⟨⟨h.ar.frame f fun k _ hk => notR k hk, h.inv, by simpa using b2, fun k hk => .inl (h.rT k hk), .inl h.sT, fun k hk => .inl (h.iT k hk), fun k hk => .inr (.inl hk), fun x hx k hk => ?_, fun k hk => ?_, h.sR, h.iO, fun k hk => ?_, fun x hx k hk => ?_, ?_, h.ids.fr f (fun k hk hk' => hk'.elim (fun hx => (h.xO k hx).2.2 hk) fun e => (h.iO k hk).2 e) (fun _ _ _ h => h), ho.fr f2 (fun k hk e => ?_) (fun _ _ _ h => h), fun x hx => ?_, by rw [List.map_append, h.ms]; rfl, by simp; omega⟩, f.mono fun k _ hk => isT k hk, fun k hk => (new k hk).imp (h.xT k) id⟩
  · rcases List.mem_append.1 hx with hx | hx
    · exact .inl (h.mT x hx k hk)
    · obtain rfl := List.mem_singleton.1 hx; exact .inr (.inr hk)
  · rcases hk with hk | hk | hk
    · have := h.tlt k hk; omega
    · have := ho.lt k hk; omega
    · have := ma k hk; omega
  · rcases new k hk with hk | hk
    · exact h.xO k hk
    · exact ⟨fun hr => by have := h.tlt k (h.rT k hr); omega, by omega, fun hi => by have := h.ids.lt k hi; omega⟩
  · rcases List.mem_append.1 hx with hx | hx
    · obtain ⟨m1, m2, m3, m4⟩ := h.mO x hx k hk
      refine ⟨m1, m2, m3, fun hX => ?_⟩
      rcases new k hX with hX | hX
      · exact m4 hX
      · have := h.tlt k (h.mT x hx k hk); omega
    · obtain rfl := List.mem_singleton.1 hx
      have hT := hnew k hk
      refine ⟨fun hr => hT (h.rT k hr), fun e => hT (e ▸ h.sT), fun hi => hT (h.iT k hi), fun hX => ?_⟩
      rcases new k hX with hX | hX
      · exact hT (h.xT k hX)
      · have := ma k hk; omega
  · refine List.pairwise_append.2 ⟨h.mD, List.pairwise_singleton _ _, fun x hx y hy k hk hk' => ?_⟩
    obtain rfl := List.mem_singleton.1 hy
    exact hnew k hk' (h.mT x hx k hk)
  · have e : k = s := e
    rcases new k hk with hk | hk
    · exact (h.xO k hk).2.1 e
    · omega
  · have st : Step (Om R M) u (Om R M) u2 := f.step (fun k _ hk => .inl (notR k hk)) (fun _ _ h => h)
    rcases List.mem_append.1 hx with hx | hx
    · obtain ⟨g1, g2, g3, g4, g5⟩ := h.good x hx
      exact ⟨g1.keep st, g2, g3, g4, g5.fr f (fun k hk hk' => hk'.elim (h.mO x hx k hk).2.2.2 fun e => (h.mO x hx k hk).2.1 e) (fun _ _ _ h => h)⟩
    · obtain rfl := List.mem_singleton.1 hx
      exact ⟨g1.keep st, g2, g3, g4, g5.fr f (fun k hk hk' => hnew k hk (isT k hk')) (fun _ _ _ h => h)⟩
theorem aMark (h : Sto T u s q) : CallsV Tryz.prog 31 #[.pointer (some ⟨s, 0, none⟩)] u fun r u' => (100 ≤ q.ms.length ∧ r = .tuple #[.int .i64 0, .int .i64 5] ∧ Ext u u') ∨ (q.ms.length < 100 ∧ r = .tuple #[iv (q.ms.length + 1), .int .i64 0] ∧ ∃ T', Sto T' u' s ⟨q.A, q.D, q.ms ++ [(q.A, q.D)]⟩ ∧ Tch T u T' u') := by
  obtain ⟨g, R, M, IA, ic, X, xc, L, h⟩ := h
  have hml : q.ms.length = L.length := by rw [← h.ms, List.length_map]
  refine undo_Store_Mark.calls okay ?_
  unfold undo_Store_Mark.W
  refine (smade_spec h).same ⟨_, rfl, brnb (fun h => by cases h) fun _ => ⟨_, rfl, _, _, _, h.blk.cell rfl, brd (fun hge => .inl ⟨by omega, rfl, .refl _ _⟩) fun hlt => ?_⟩⟩
  refine ⟨fun v => ∃ T' R' M' X' xc' a, StoA T' v s ⟨q.A, q.D, q.ms ++ [(q.A, q.D)]⟩ g R' M' IA ic X' xc' (L ++ [a]) (idsD q.D) ∧ Tch T u T' v, ?_, ?_⟩
  · rintro v ⟨T', R', M', X', xc', a, h', c⟩
    refine ⟨_, rfl, _, _, _, h'.blk.cell rfl, .inr ⟨by omega, ?_, T', ⟨g, R', M', IA, ic, X', xc', _, h'⟩, c⟩⟩
    rw [hml]; simp
  · have ed : Ext u u.drew := Fr.drew NoB u
    have h1 := h.ext ed
    refine ⟨_, rfl, fun v => Blk v s [.pointer (some ⟨g, 0, none⟩), .slice IA (idsD q.D).length ic, .slice X L.length xc], h1.blk, _, _, _, fun v hv => hv.cell rfl, _, rfl, _, fun v hv => hv.cell rfl, _, rfl, _, _, _, fun v hv => hv.cell rfl, (dSave h1.inv h1.ar).mono ?_⟩
    rintro _ u2 ⟨sb, R2, rfl, ha2, c2, e2, hS2⟩
    obtain ⟨T2, h2, t2⟩ := h1.chg ha2 c2 h1.inv rfl rfl
    refine ⟨_, rfl, h2.blk, (CloneI_spec oneI (h2.ids.imm KI_pos) (by rw [idsD_len]; have := h2.inv.cnt; show q.D.length ≤ _; have h9 : q.D.length ≤ 1000 := h2.inv.cnt; omega)).mono ?_⟩
    rintro _ u3 ⟨A3, c3, rfl, ho3, e3, n3, _⟩
    have ho3 : OwnK KI u3 A3 c3 (idsD q.D) := ho3
    have h3 := h2.ext e3
    refine ⟨_, _, _, rfl, h3.blk, ?_⟩
    rintro g4 u4 ⟨rfl, rfl⟩
    obtain ⟨X', xc', u5, hr5, ho5, gr5⟩ := h3.marks.push (K := KMk) slM (ty := 40) (a := ⟨sb, A3, c3, q.A, q.D⟩) (cs := mkC ⟨sb, A3, c3, q.A, q.D⟩) rfl (fun v hv => by simp [mkC] at hv; rcases hv with rfl | rfl <;> rfl) (e' := 114) (by simp only [maxLen]; omega) (by omega)
    have hnew : ∀ k, ownB A3 k → ¬ T2 k := fun k hk ht => by have := n3 k hk; have := h2.tlt k ht; omega
    obtain ⟨p1, p2⟩ := h3.setMarks (a := ⟨sb, A3, c3, q.A, q.D⟩) (hS2.keep (Ext.om e3 R2 M)) h1.inv rfl rfl ho3 hnew (by omega) ho5 gr5
    refine ⟨h3.blk.ext (Fr.alloc NoB u3 _), _, _, _, u5, hr5, _, rfl, p1, fun u6 hu6 => ?_⟩
    obtain ⟨h6, f6, s6⟩ := p2 u6 hu6
    refine ⟨_, R2, M, X', xc', _, h6, (Tch.ext ed).trans (t2.trans ⟨(e3.fr : Fr T2 u2 u3).trans f6 (fun _ _ h => h) (fun _ _ h => h), fun k hk => ?_⟩)⟩
    have := e3.size
    rcases hk with hk | hk | hk
    · exact .inl hk
    · exact (s6 k hk).imp id fun h => by omega
    · exact .inr (n3 k hk)
theorem mkCell {Ω : Nat → Prop} {X : Option Addr} {L : List Mk} (h : Imm KMk Ω u X L) {k : Nat} (hk : k < L.length) : ∃ ad, X = some ad ∧ u.cell? ((ad.add (k * 2)).add 0) = some (.pointer (some ⟨L[k].sb, 0, none⟩)) ∧ u.cell? ((ad.add (k * 2)).add 1) = some (.slice L[k].MA (idsD L[k].D).length L[k].mc) := by
  obtain ⟨ad, hA, _, cs, hr, hc⟩ := h k L[k] (List.getElem?_eq_getElem hk)
  have hr : cs = mkC L[k] := hr
  subst hr
  exact ⟨ad, hA, by rw [add_add]; exact hc 0 _ rfl, by rw [add_add]; exact hc 1 _ rfl⟩
set_option maxHeartbeats 400000 in
theorem aBack (h : Sto T u s q) (n : Int) : CallsV Tryz.prog 33 #[.pointer (some ⟨s, 0, none⟩), .int .i64 n] u fun r u' => ((n < 1 ∨ (q.ms.length : Int) < n) ∧ r = .int .i64 60 ∧ u' = u) ∨ (1 ≤ n ∧ n ≤ (q.ms.length : Int) ∧ r = .int .i64 0 ∧ ∃ B D' T', q.ms[(n - 1).toNat]? = some (B, D') ∧ Sto T' u' s ⟨B, D', q.ms.take (n - 1).toNat⟩ ∧ Tch T u T' u') := by
  obtain ⟨g, R, M, IA, ic, X, xc, L, h⟩ := h
  have hml : q.ms.length = L.length := by rw [← h.ms, List.length_map]
  have hcnt := h.cnt
  refine undo_Store_Back.calls okay ?_
  unfold undo_Store_Back.W
  refine (sis_spec h n).same ⟨_, rfl, ?_⟩
  by_cases hb : n < 1 ∨ (L.length : Int) < n
  · rw [if_pos hb]
    exact brn (fun _ => .inl ⟨by omega, rfl, rfl⟩) fun h => by cases h
  · rw [if_neg hb]
    have hw : IntKind.i64.wrap (n - 1) = (((n - 1).toNat : Nat) : Int) := by rw [wi _ (by omega) (by omega)]; omega
    have hxle : L.length ≤ xc := by obtain ⟨xs, ho, _⟩ := h.marks; exact ho.le
    obtain ⟨k, hk⟩ : ∃ k, (n - 1).toNat = k := ⟨_, rfl⟩
    rw [hk] at hw ⊢
    have hkl : k < L.length := by omega
    obtain ⟨ad, hX, c0, c1⟩ := mkCell (h.marks.imm KMk_pos) hkl
    refine brn (fun h => absurd rfl h) fun _ => ⟨_, rfl, _, _, _, h.blk.cell rfl, ad, hX, ?_⟩
    rw [hw, Int.toNat_natCast]
    refine ⟨⟨by omega, by omega⟩, _, c0, _, _, _, c1, ?_⟩
    have hmem : L[k] ∈ L := List.getElem_mem hkl
    have hqk : q.ms[k]? = some (L[k].A, L[k].D) := by rw [← h.ms, List.getElem?_map, List.getElem?_eq_getElem hkl]; rfl
    have hdis : ∀ x ∈ L.take k, ∀ j, ownB x.MA j → ¬ ownB L[k].MA j := by
      have hp := h.mD
      rw [← List.take_append_drop k L, List.drop_eq_getElem_cons hkl] at hp
      intro x hx j hj
      exact (List.pairwise_append.1 hp).2.2 x hx L[k] (List.mem_cons.2 (.inl rfl)) j hj
    generalize L[k] = x at *
    intro gm u1 f1
    refine ⟨f1.blk.stOK (o := 0) [_, _] 0 (by simp), fun u2 hu2 => ?_⟩
    have bm : Blk u2 gm (mkC x) := by rw [hu2]; exact Blk.setAll (o := 0) (mkC x) 0 f1.blk
    have e2 : Ext u u2 := by rw [hu2]; exact f1.ext.setAll f1.ge _ _
    have ed : Ext u u2.drew := e2.drew
    have hgm : ¬ T gm := fun ht => by have := h.tlt gm ht; have := f1.ge; omega
    have hgs : gm ≠ s := fun e => hgm (e ▸ h.sT)
    have hd := h.ext ed
    have bmd := bm.ext (Fr.drew NoB u2)
    -- the numbers
    obtain ⟨p1, p2⟩ := setF hd.blk (o := 1) (by simp) (.slice x.MA (idsD x.D).length x.mc)
    refine ⟨fun v => ∃ T', StoA T' v s ⟨q.A, q.D, q.ms.take k⟩ g R M x.MA x.mc X xc (L.take k) (idsD x.D) ∧ Sv1 (Om R M) v x.sb g x.A ∧ Tch T u T' v ∧ Blk v gm (mkC x) ∧ ¬ T' gm, ?_, ?_⟩
    · rintro v ⟨T', h', hS', c', bm', hgm'⟩
      obtain ⟨g1, g2, g3, g4, g5⟩ := h.good x hmem
      have edv : Ext v v.drew := Fr.drew NoB v
      have hv := h'.ext edv
      refine ⟨_, rfl, fun z => Ext v z, edv, _, fun z e => (h'.blk.ext e).cell rfl, _, fun z e => (bm'.ext e).cell rfl, (dLoad hv.inv g2 g3 g4 hv.ar (hS'.keep (Ext.om edv R M))).mono ?_⟩
      rintro _ v2 ⟨rfl, R', M', ha, c⟩
      obtain ⟨T2, h2, t2⟩ := hv.chg ha c g2 g3 g4
      exact ⟨_, rfl, .inr ⟨by omega, by omega, rfl, x.A, x.D, T2, hqk, ⟨g, R', M', x.MA, x.mc, X, xc, _, h2⟩, c'.trans ((Tch.ext edv).trans t2)⟩⟩
    · refine ⟨fun v => Blk v gm (mkC x) ∧ Blk v s [.pointer (some ⟨g, 0, none⟩), .slice IA (idsD q.D).length ic, .slice X L.length xc], ⟨bmd, hd.blk⟩, _, _, _, fun v hv => hv.1.cell rfl, _, rfl, _, _, _, fun v hv => hv.2.cell rfl, ⟨by omega, by omega⟩, _, rfl, p1, fun u3 hu3 => ?_⟩
      obtain ⟨b3, f3⟩ := p2 u3 hu3
      obtain ⟨q1, q2⟩ := setF b3 (o := 2) (by simp) (.slice X k xc)
      rw [cutAt_zero, Nat.sub_zero, Nat.sub_zero]
      refine ⟨_, rfl, q1, fun u4 hu4 => ?_⟩
      obtain ⟨b4, f4⟩ := q2 u4 hu4
      have f : Fr (fun j => j = s) u2.drew u4 := f3.trans f4 (fun _ _ h => h) (fun _ _ h => h)
      have ln : (L.take k).length = k := by rw [List.length_take]; omega
      have sub : ∀ y ∈ L.take k, y ∈ L := fun y hy => (List.take_sublist k L).subset hy
      have so : Step (Om R M) u2.drew (Om R M) u4 := f.step (fun j _ e => .inl fun hr => h.sR (by have e : j = s := e; exact e ▸ hr)) (fun _ _ h => h)
      obtain ⟨g1, g2, g3, g4, g5⟩ := hd.good x hmem
      refine ⟨T, ⟨hd.ar.frame f fun j _ e hr => h.sR (by have e : j = s := e; exact e ▸ hr), hd.inv, by rw [ln]; simpa using b4, h.rT, h.sT, h.mT x hmem, h.xT, fun y hy => h.mT y (sub y hy), fun j hj => Nat.lt_of_lt_of_le (hd.tlt j hj) f.size, h.sR, fun j hj => ⟨(h.mO x hmem j hj).1, (h.mO x hmem j hj).2.1⟩, fun j hj => ⟨(h.xO j hj).1, (h.xO j hj).2.1, fun hm => (h.mO x hmem j hm).2.2.2 hj⟩, fun y hy j hj => ⟨(h.mO y (sub y hy) j hj).1, (h.mO y (sub y hy) j hj).2.1, hdis y hy j hj, (h.mO y (sub y hy) j hj).2.2.2⟩, h.mD.sublist (List.take_sublist k L), g5.fr f (fun j hj e => (h.mO x hmem j hj).2.1 e) (fun _ _ _ h => h), (hd.marks.take k (by omega)).fr f (fun j hj e => (h.xO j hj).2.1 e) (fun _ _ _ h => h), fun y hy => ?_, by rw [List.map_take, h.ms], by rw [ln]; omega⟩, g1.keep so, (Tch.ext ed).trans ⟨f.mono fun j _ e => by have e : j = s := e; rw [e]; exact h.sT, fun j hj => .inl hj⟩, bmd.keep f hgs, hgm⟩
      obtain ⟨y1, y2, y3, y4, y5⟩ := hd.good y (sub y hy)
      exact ⟨y1.keep so, y2, y3, y4, y5.fr f (fun j hj e => (h.mO y (sub y hy) j hj).2.1 e) (fun _ _ _ h => h)⟩
end
theorem aNew (u : World) (fan most : Nat) (h1 : 4 ≤ fan) (h2 : fan ≤ 64) (h3 : 1 ≤ most) (h4 : most ≤ 65536) : CallsV Tryz.prog 19 #[iv fan, iv most] u fun r u' => ∃ s T, r = .tuple #[.pointer (some ⟨s, 0, none⟩), .int .i64 0] ∧ Sto T u' s ⟨A0 fan most, [], []⟩ ∧ Ext u u' ∧ ∀ k, T k → u.heap.size ≤ k := by
  refine undo_New.calls okay ?_
  unfold undo_New.W
  refine (New_spec u fan most h1 h2 h3 h4).mono ?_
  rintro _ u1 ⟨g, R, M, rfl, ha, e1, hR⟩
  refine ⟨_, _, rfl, brn (fun h => absurd rfl h) fun _ => ?_⟩
  intro s u2 f2
  have hI : Inv (A0 fan most) [] := ⟨rfl, fun _ h => (by cases h), fun x => (by simp [A0]), List.nodup_nil, fun _ h => (by cases h), h1, h2, h4, by simp [Ar.nodes, A0], by simp [A0], by simp⟩
  have hl := ha.lt
  refine ⟨s, fun k => R k ∨ k = s, rfl, ⟨g, R, M, none, 0, none, 0, [], ⟨ha.ext f2.ext, hI, f2.blk, fun k hk => .inl hk, .inr rfl, fun k hk => (ownB_none k hk).elim, fun k hk => (ownB_none k hk).elim, fun x hx => (by cases hx), fun k hk => ?_, fun hr => by have := hl s hr; have := f2.ge; omega, fun k hk => (ownB_none k hk).elim, fun k hk => (ownB_none k hk).elim, fun x hx => (by cases hx), List.Pairwise.nil, OwnK.nil _ _, OwnK.nil _ _, fun x hx => (by cases hx), rfl, by simp⟩⟩, e1.trans' f2.ext, fun k hk => ?_⟩
  · rcases hk with hk | rfl
    · have := hl k hk; have := f2.ext.size; omega
    · exact f2.lt
  · rcases hk with hk | rfl
    · exact hR k hk
    · exact Nat.le_trans e1.size f2.ge
end Go.Proofs.YthfagbfllheneaaGreat
set_option linter.unusedVariables false
set_option maxRecDepth 100000
namespace Go.Proofs.YthfagbfllheneaaGreat
open Go Go.Sx
noncomputable def cursor_New.W : Option Addr → Int → World → (Value → World → Prop) → Prop := fun (s : Option Addr) (id : Int) (w : World) (K : Value → World → Prop) => CallsV Tryz.prog 51
 #[Value.pointer s] w fun (v : Value) (w' : World) => ∃ (x : Int), v = Value.int IntKind.i64 x ∧ bif decide (x = (1 : Int)) then K (Value.tuple #[Value.pointer none, Value.int
 IntKind.i64 (1 : Int)]) w' else CallsV Tryz.prog 49 #[Value.pointer s] w' fun (v : Value) (w' : World) => ∃ (x : Option Addr) (x_1 x_2 : Nat), v = Value.slice x x_1 x_2 ∧ CallsV Tryz.prog 48
 #[Value.slice x x_1 x_2, Value.int IntKind.i64 id] w' fun (v : Value) (w' : World) => ∃ (x : Bool), v = Value.bool x ∧ bif !x then K (Value.tuple #[Value.pointer none, Value.int IntKind.i64 (41
 : Int)]) w' else ∀ (g : Nat) (w'_1 : World), Fresh w' g w'_1 [Value.pointer s, Value.int IntKind.i64 id, Value.slice none 0 0, Value.bool false] 91 → K (Value.tuple #[Value.pointer
 (some (Addr.mk g 0 none)), Value.int IntKind.i64 (0 : Int)]) w'_1
theorem cursor_New.calls (ok : Okay Tryz.prog) {s : Option Addr} {id : Int} {w : World} {K : Value → World → Prop} (h : cursor_New.W s id w K) : CallsV Tryz.prog 14 #[.pointer s, .int .i64 id] w K :=
  fnW_calls ok Tryz.func14 (an := (.named .auto)) (args := [.pointer s, .int .i64 id]) (Eq.mp (by kernel_rfl) h)
noncomputable def cursor_Cursor_made.W : Option Addr → World → (Value → World → Prop) → Prop := fun (c : Option Addr) (w : World) (K : Value → World → Prop) => bif !Option.isNone c then ∃ (a : Addr), c
 = some a ∧ ∃ (x : Option Addr), World.cell? w (Addr.add a 0) = some (Value.pointer x) ∧ K (Value.bool !Option.isNone x) w else K (Value.bool false) w
theorem cursor_Cursor_made.calls (ok : Okay Tryz.prog) {c : Option Addr} {w : World} {K : Value → World → Prop} (h : cursor_Cursor_made.W c w K) : CallsV Tryz.prog 40 #[.pointer c] w K :=
  fnW_calls ok Tryz.func40 (an := (.named .auto)) (args := [.pointer c]) (Eq.mp (by kernel_rfl) h)
noncomputable def cursor_Cursor_put.W : Option Addr → Option Addr → Nat → Nat → Option Addr → Nat → Nat → Bool → World → (Value → World → Prop) → Prop := fun (c key_A : Option Addr) (key_n key_c : Nat)
 (a2_A : Option Addr) (a2_n a2_c : Nat) (okx : Bool) (w : World) (K : Value → World → Prop) => bif Option.isNone c then K (Value.bool false) w else ∃ (a : Addr), c = some a ∧ ∃ (x : Option
 Addr), World.cell? w (Addr.add a 0) = some (Value.pointer x) ∧ bif Option.isNone x then K (Value.bool false) w else ∃ (a : Addr), c = some a ∧ stOK (Addr.add a 2) 0 [Value.slice
 key_A key_n key_c] w ∧ ∀ (w' : World), w' = setAll (Addr.add a 2) 0 [Value.slice key_A key_n key_c] w → ∃ (a : Addr), c = some a ∧ stOK (Addr.add a 3) 0 [Value.bool okx] w' ∧ ∀ (w'_1 : World),
 w'_1 = setAll (Addr.add a 3) 0 [Value.bool okx] w' → K (Value.bool okx) w'_1
theorem cursor_Cursor_put.calls (ok : Okay Tryz.prog) {c : Option Addr} {key_A : Option Addr} {key_n : Nat} {key_c : Nat} {a2_A : Option Addr} {a2_n : Nat} {a2_c : Nat} {okx : Bool} {w : World} {K : Value → World → Prop} (h : cursor_Cursor_put.W c key_A key_n key_c a2_A a2_n a2_c okx w K) : CallsV Tryz.prog 47 #[.pointer c, .slice key_A key_n key_c, .slice a2_A a2_n a2_c, .bool okx] w K :=
  fnW_calls ok Tryz.func47 (an := (.named .auto)) (args := [.pointer c, .slice key_A key_n key_c, .slice a2_A a2_n a2_c, .bool okx]) (Eq.mp (by kernel_rfl) h)
noncomputable def cursor_Cursor_Rewind.W : Option Addr → World → (Value → World → Prop) → Prop := fun (c : Option Addr) (w : World) (K : Value → World → Prop) => CallsV Tryz.prog 40 #[Value.pointer c]
 (World.drew w) fun (v : Value) (w' : World) => ∃ (x : Bool), v = Value.bool x ∧ bif x then ∃ (a : Addr), c = some a ∧ ∃ (S : World → Prop), S w' ∧ ∃ (x : Option Addr), (∀ (u : World), S u →
 World.cell? u (Addr.add a 0) = some (Value.pointer x)) ∧ ∃ (a : Addr), c = some a ∧ ∃ (x_1 : Int), (∀ (u : World), S u → World.cell? u (Addr.add a 1) = some (Value.int IntKind.i64
 x_1)) ∧ CallsV Tryz.prog 42 #[Value.pointer x, Value.int IntKind.i64 x_1, Value.slice none 0 0, Value.bool true] w' fun (v : Value) (w' : World) => ∃ (x : Option Addr) (x_2 x_3 : Nat) (x_4
 : Option Addr) (x_5 x_6 : Nat) (x_7 : Bool), v = Value.tuple #[Value.slice x x_2 x_3, Value.slice x_4 x_5 x_6, Value.bool x_7] ∧ CallsV Tryz.prog 47 #[Value.pointer c, Value.slice x x_2 x_3,
 Value.slice x_4 x_5 x_6, Value.bool x_7] w' fun (v : Value) (w' : World) => ∃ (x : Bool), v = Value.bool x ∧ K (Value.bool x) w' else K (Value.bool false) w'
theorem cursor_Cursor_Rewind.calls (ok : Okay Tryz.prog) {c : Option Addr} {w : World} {K : Value → World → Prop} (h : cursor_Cursor_Rewind.W c w K) : CallsV Tryz.prog 13 #[.pointer c] w K :=
  fnW_calls ok Tryz.func13 (an := (.named .auto)) (args := [.pointer c]) (Eq.mp (by kernel_rfl) h)
noncomputable def cursor_Cursor_Last.W : Option Addr → World → (Value → World → Prop) → Prop := fun (c : Option Addr) (w : World) (K : Value → World → Prop) => CallsV Tryz.prog 40 #[Value.pointer c]
 (World.drew w) fun (v : Value) (w' : World) => ∃ (x : Bool), v = Value.bool x ∧ bif x then ∃ (a : Addr), c = some a ∧ ∃ (S : World → Prop), S w' ∧ ∃ (x : Option Addr), (∀ (u : World), S u →
 World.cell? u (Addr.add a 0) = some (Value.pointer x)) ∧ ∃ (a : Addr), c = some a ∧ ∃ (x_1 : Int), (∀ (u : World), S u → World.cell? u (Addr.add a 1) = some (Value.int IntKind.i64
 x_1)) ∧ CallsV Tryz.prog 50 #[Value.pointer x, Value.int IntKind.i64 x_1] w' fun (v : Value) (w' : World) => ∃ (x : Option Addr) (x_2 x_3 : Nat) (x_4 : Option Addr) (x_5 x_6 : Nat) (x_7 : Bool), v =
 Value.tuple #[Value.slice x x_2 x_3, Value.slice x_4 x_5 x_6, Value.bool x_7] ∧ CallsV Tryz.prog 47 #[Value.pointer c, Value.slice x x_2 x_3, Value.slice x_4 x_5 x_6, Value.bool x_7] w' fun (v : Value)
 (w' : World) => ∃ (x : Bool), v = Value.bool x ∧ K (Value.bool x) w' else K (Value.bool false) w'
theorem cursor_Cursor_Last.calls (ok : Okay Tryz.prog) {c : Option Addr} {w : World} {K : Value → World → Prop} (h : cursor_Cursor_Last.W c w K) : CallsV Tryz.prog 12 #[.pointer c] w K :=
  fnW_calls ok Tryz.func12 (an := (.named .auto)) (args := [.pointer c]) (Eq.mp (by kernel_rfl) h)
noncomputable def cursor_Cursor_entry.W : Option Addr → World → (Value → World → Prop) → Prop := fun (c : Option Addr) (w : World) (K : Value → World → Prop) => CallsV Tryz.prog 40 #[Value.pointer c] w
 fun (v : Value) (w' : World) => ∃ (x : Bool), v = Value.bool x ∧ bif !x then K (Value.tuple #[Value.slice none 0 0, Value.slice none 0 0, Value.bool false]) w' else ∃ (a : Addr), c =
 some a ∧ ∃ (x : Bool), World.cell? w' (Addr.add a 3) = some (Value.bool x) ∧ bif !x then K (Value.tuple #[Value.slice none 0 0, Value.slice none 0 0, Value.bool false])
 w' else ∃ (a : Addr), c = some a ∧ ∃ (S : World → Prop), S (World.drew w') ∧ ∃ (x : Option Addr), (∀ (u : World), S u → World.cell? u (Addr.add a 0) = some (Value.pointer x)) ∧ ∃ (a :
 Addr), c = some a ∧ ∃ (x_1 : Int), (∀ (u : World), S u → World.cell? u (Addr.add a 1) = some (Value.int IntKind.i64 x_1)) ∧ ∃ (a : Addr), c = some a ∧ ∃ (x_2 : Option Addr) (x_3
 x_4 : Nat), (∀ (u : World), S u → World.cell? u (Addr.add a 2) = some (Value.slice x_2 x_3 x_4)) ∧ CallsV Tryz.prog 82 #[Value.pointer x, Value.int IntKind.i64 x_1, Value.slice x_2 x_3 x_4]
 (World.drew w') fun (v : Value) (w' : World) => ∃ (x : Option Addr) (x_5 x_6 : Nat) (x_7 : Bool), v = Value.tuple #[Value.slice x x_5 x_6, Value.bool x_7] ∧ ∃ (a : Addr), c = some a ∧ ∃ (x_8 :
 Option Addr) (x_9 x_10 : Nat), World.cell? w' (Addr.add a 2) = some (Value.slice x_8 x_9 x_10) ∧ K (Value.tuple #[Value.slice x_8 x_9 x_10, Value.slice x x_5 x_6, Value.bool x_7]) w'
theorem cursor_Cursor_entry.calls (ok : Okay Tryz.prog) {c : Option Addr} {w : World} {K : Value → World → Prop} (h : cursor_Cursor_entry.W c w K) : CallsV Tryz.prog 58 #[.pointer c] w K :=
  fnW_calls ok Tryz.func58 (an := (.named .auto)) (args := [.pointer c]) (Eq.mp (by kernel_rfl) h)
noncomputable def cursor_Cursor_Valid.W : Option Addr → World → (Value → World → Prop) → Prop := fun (c : Option Addr) (w : World) (K : Value → World → Prop) => CallsV Tryz.prog 58 #[Value.pointer c] w
 fun (v : Value) (w' : World) => ∃ (x : Option Addr) (x_1 x_2 : Nat) (x_3 : Option Addr) (x_4 x_5 : Nat) (x_6 : Bool), v = Value.tuple #[Value.slice x x_1 x_2, Value.slice x_3 x_4 x_5, Value.bool x_6] ∧
 K (Value.bool x_6) w'
theorem cursor_Cursor_Valid.calls (ok : Okay Tryz.prog) {c : Option Addr} {w : World} {K : Value → World → Prop} (h : cursor_Cursor_Valid.W c w K) : CallsV Tryz.prog 17 #[.pointer c] w K :=
  fnW_calls ok Tryz.func17 (an := (.named .auto)) (args := [.pointer c]) (Eq.mp (by kernel_rfl) h)
noncomputable def cursor_Cursor_Key.W : Option Addr → World → (Value → World → Prop) → Prop := fun (c : Option Addr) (w : World) (K : Value → World → Prop) => CallsV Tryz.prog 58 #[Value.pointer c] w
 fun (v : Value) (w' : World) => ∃ (x : Option Addr) (x_1 x_2 : Nat) (x_3 : Option Addr) (x_4 x_5 : Nat) (x_6 : Bool), v = Value.tuple #[Value.slice x x_1 x_2, Value.slice x_3 x_4 x_5, Value.bool x_6] ∧
 bif !x_6 then K (Value.slice none 0 0) w' else CallsV Tryz.prog 57 #[Value.slice x x_1 x_2] w' fun (v : Value) (w' : World) => ∃ (x : Option Addr) (x_7 x_8 : Nat), v = Value.slice x x_7 x_8 ∧ K
 (Value.slice x x_7 x_8) w'
theorem cursor_Cursor_Key.calls (ok : Okay Tryz.prog) {c : Option Addr} {w : World} {K : Value → World → Prop} (h : cursor_Cursor_Key.W c w K) : CallsV Tryz.prog 38 #[.pointer c] w K :=
  fnW_calls ok Tryz.func38 (an := (.named .auto)) (args := [.pointer c]) (Eq.mp (by kernel_rfl) h)
noncomputable def cursor_Cursor_Value.W : Option Addr → World → (Value → World → Prop) → Prop := fun (c : Option Addr) (w : World) (K : Value → World → Prop) => CallsV Tryz.prog 58 #[Value.pointer c] w
 fun (v : Value) (w' : World) => ∃ (x : Option Addr) (x_1 x_2 : Nat) (x_3 : Option Addr) (x_4 x_5 : Nat) (x_6 : Bool), v = Value.tuple #[Value.slice x x_1 x_2, Value.slice x_3 x_4 x_5, Value.bool x_6] ∧
 K (Value.slice x_3 x_4 x_5) w'
theorem cursor_Cursor_Value.calls (ok : Okay Tryz.prog) {c : Option Addr} {w : World} {K : Value → World → Prop} (h : cursor_Cursor_Value.W c w K) : CallsV Tryz.prog 39 #[.pointer c] w K :=
  fnW_calls ok Tryz.func39 (an := (.named .auto)) (args := [.pointer c]) (Eq.mp (by kernel_rfl) h)
noncomputable def cursor_Cursor_Insert.W : Option Addr → Option Addr → Nat → Nat → Option Addr → Nat → Nat → World → (Value → World → Prop) → Prop := fun (c key_A : Option Addr) (key_n key_c : Nat)
 (val_A : Option Addr) (val_n val_c : Nat) (w : World) (K : Value → World → Prop) => CallsV Tryz.prog 40 #[Value.pointer c] w fun (v : Value) (w' : World) => ∃ (x : Bool), v = Value.bool x ∧ bif !x then
 K (Value.tuple #[Value.bool false, Value.int IntKind.i64 (1 : Int)]) w' else ∃ (a : Addr), c = some a ∧ ∃ (S : World → Prop), S (World.drew w') ∧ ∃ (x : Option Addr), (∀ (u : World), S u →
 World.cell? u (Addr.add a 0) = some (Value.pointer x)) ∧ ∃ (a : Addr), c = some a ∧ ∃ (x_1 : Int), (∀ (u : World), S u → World.cell? u (Addr.add a 1) = some (Value.int IntKind.i64
 x_1)) ∧ CallsV Tryz.prog 22 #[Value.pointer x, Value.int IntKind.i64 x_1, Value.slice key_A key_n key_c, Value.slice val_A val_n val_c] (World.drew w') fun (v : Value) (w' : World) => ∃ (x : Bool) (x_2
 : Int), v = Value.tuple #[Value.bool x, Value.int IntKind.i64 x_2] ∧ bif decide (x_2 = (0 : Int)) then CallsV Tryz.prog 57 #[Value.slice key_A key_n key_c] w' fun (v : Value) (w' : World) =>
 ∃ (x_3 : Option Addr) (x_4 x_5 : Nat), v = Value.slice x_3 x_4 x_5 ∧ CallsV Tryz.prog 47 #[Value.pointer c, Value.slice x_3 x_4 x_5, Value.slice none 0 0, Value.bool true] w' fun (v :
 Value) (w' : World) => ∃ (x_6 : Bool), v = Value.bool x_6 ∧ K (Value.tuple #[Value.bool x, Value.int IntKind.i64 x_2]) w' else K (Value.tuple #[Value.bool x, Value.int IntKind.i64 x_2]) w'
theorem cursor_Cursor_Insert.calls (ok : Okay Tryz.prog) {c : Option Addr} {key_A : Option Addr} {key_n : Nat} {key_c : Nat} {val_A : Option Addr} {val_n : Nat} {val_c : Nat} {w : World} {K : Value → World → Prop} (h : cursor_Cursor_Insert.W c key_A key_n key_c val_A val_n val_c w K) : CallsV Tryz.prog 16 #[.pointer c, .slice key_A key_n key_c, .slice val_A val_n val_c] w K :=
  fnW_calls ok Tryz.func16 (an := (.named .auto)) (args := [.pointer c, .slice key_A key_n key_c, .slice val_A val_n val_c]) (Eq.mp (by kernel_rfl) h)
noncomputable def cursor_Cursor_Delete.W : Option Addr → World → (Value → World → Prop) → Prop := fun (c : Option Addr) (w : World) (K : Value → World → Prop) => CallsV Tryz.prog 40 #[Value.pointer c]
 w fun (v : Value) (w' : World) => ∃ (x : Bool), v = Value.bool x ∧ bif !x then K (Value.int IntKind.i64 (1 : Int)) w' else ∃ (J : Bool → World → Prop), (∀ (x : Bool) (w : World), J x w → bif x then K
 (Value.int IntKind.i64 (41 : Int)) w else CallsV Tryz.prog 17 #[Value.pointer c] w fun (v : Value) (w' : World) => ∃ (x : Bool), v = Value.bool x ∧ bif !x then K (Value.int IntKind.i64 (70 : Int)) w'
 else ∃ (a : Addr), c = some a ∧ ∃ (S : World → Prop), S (World.drew w') ∧ ∃ (x : Option Addr), (∀ (u : World), S u → World.cell? u (Addr.add a 0) = some (Value.pointer x)) ∧ ∃ (a : Addr),
 c = some a ∧ ∃ (x_1 : Int), (∀ (u : World), S u → World.cell? u (Addr.add a 1) = some (Value.int IntKind.i64 x_1)) ∧ ∃ (a : Addr), c = some a ∧ ∃ (x_2 : Option Addr) (x_3 x_4 :
 Nat), (∀ (u : World), S u → World.cell? u (Addr.add a 2) = some (Value.slice x_2 x_3 x_4)) ∧ CallsV Tryz.prog 30 #[Value.pointer x, Value.int IntKind.i64 x_1, Value.slice x_2 x_3 x_4]
 (World.drew w') fun (v : Value) (w' : World) => ∃ (x : Bool) (x_5 : Int), v = Value.tuple #[Value.bool x, Value.int IntKind.i64 x_5] ∧ K (Value.int IntKind.i64 x_5) w') ∧ ∃ (a : Addr), c = some
 a ∧ ∃ (S : World → Prop), S (World.drew w') ∧ ∃ (x : Option Addr), (∀ (u : World), S u → World.cell? u (Addr.add a 0) = some (Value.pointer x)) ∧ ∃ (a : Addr), c = some a ∧ ∃ (x_1 : Int),
 (∀ (u : World), S u → World.cell? u (Addr.add a 1) = some (Value.int IntKind.i64 x_1)) ∧ CallsV Tryz.prog 49 #[Value.pointer x] (World.drew w') fun (v : Value) (w' : World) => ∃ (x : Option
 Addr) (x_2 x_3 : Nat), v = Value.slice x x_2 x_3 ∧ S w' ∧ CallsV Tryz.prog 48 #[Value.slice x x_2 x_3, Value.int IntKind.i64 x_1] w' fun (v : Value) (w' : World) => ∃ (x : Bool), v = Value.bool x ∧ J
 (!x) w'
theorem cursor_Cursor_Delete.calls (ok : Okay Tryz.prog) {c : Option Addr} {w : World} {K : Value → World → Prop} (h : cursor_Cursor_Delete.W c w K) : CallsV Tryz.prog 11 #[.pointer c] w K :=
  fnW_calls ok Tryz.func11 (an := (.named (.seq .auto (.seq (.block (.seq .auto (.cond .auto (.join [(9, .one .bool)] .auto .auto)))) .auto)))) (args := [.pointer c]) (Eq.mp (by kernel_rfl) h)
noncomputable def cursor_Cursor_Seek_1.W : Addr → Addr → World → (Value → World → Prop) → Prop := fun (a0 a1 : Addr) (w : World) (K : Value → World → Prop) => ∃ (S : World → Prop), S (World.drew w) ∧ ∃
 (x : Option Addr), (∀ (u : World), S u → World.cell? u a0 = some (Value.pointer x)) ∧ ∃ (a : Addr), x = some a ∧ ∃ (x : Option Addr), (∀ (u : World), S u → World.cell? u (Addr.add a 0) =
 some (Value.pointer x)) ∧ ∃ (x_1 : Option Addr), (∀ (u : World), S u → World.cell? u a0 = some (Value.pointer x_1)) ∧ ∃ (a : Addr), x_1 = some a ∧ ∃ (x_2 : Int), (∀ (u : World), S
 u → World.cell? u (Addr.add a 1) = some (Value.int IntKind.i64 x_2)) ∧ ∃ (x_3 : Option Addr) (x_4 x_5 : Nat), (∀ (u : World), S u → World.cell? u a1 = some (Value.slice x_3 x_4 x_5)) ∧
 CallsV Tryz.prog 42 #[Value.pointer x, Value.int IntKind.i64 x_2, Value.slice x_3 x_4 x_5, Value.bool true] (World.drew w) fun (v : Value) (w' : World) => ∃ (x : Option Addr) (x_6 x_7 : Nat) (x_8
 : Option Addr) (x_9 x_10 : Nat) (x_11 : Bool), v = Value.tuple #[Value.slice x x_6 x_7, Value.slice x_8 x_9 x_10, Value.bool x_11] ∧ S w' ∧ K (Value.tuple #[Value.slice x x_6 x_7, Value.slice x_8 x_9
 x_10, Value.bool x_11]) w'
theorem cursor_Cursor_Seek_1.calls (ok : Okay Tryz.prog) {a0 : Addr} {a1 : Addr} {w : World} {K : Value → World → Prop} (h : cursor_Cursor_Seek_1.W a0 a1 w K) : CallsV Tryz.prog 41 #[.pointer (some a0), .pointer (some a1)] w K :=
  fnW_calls ok Tryz.func41 (an := (.named .auto)) (args := [.pointer (some a0), .pointer (some a1)]) (Eq.mp (by kernel_rfl) h)
noncomputable def cursor_Cursor_Seek_2.W : Addr → Addr → World → (Value → World → Prop) → Prop := fun (a0 a1 : Addr) (w : World) (K : Value → World → Prop) => ∃ (S : World → Prop), S (World.drew w) ∧ ∃
 (x : Option Addr), (∀ (u : World), S u → World.cell? u a0 = some (Value.pointer x)) ∧ ∃ (a : Addr), x = some a ∧ ∃ (x : Option Addr), (∀ (u : World), S u → World.cell? u (Addr.add a 0) =
 some (Value.pointer x)) ∧ ∃ (x_1 : Option Addr), (∀ (u : World), S u → World.cell? u a0 = some (Value.pointer x_1)) ∧ ∃ (a : Addr), x_1 = some a ∧ ∃ (x_2 : Int), (∀ (u : World), S
 u → World.cell? u (Addr.add a 1) = some (Value.int IntKind.i64 x_2)) ∧ ∃ (x_3 : Option Addr) (x_4 x_5 : Nat), (∀ (u : World), S u → World.cell? u a1 = some (Value.slice x_3 x_4 x_5)) ∧
 CallsV Tryz.prog 42 #[Value.pointer x, Value.int IntKind.i64 x_2, Value.slice x_3 x_4 x_5, Value.bool false] (World.drew w) fun (v : Value) (w' : World) => ∃ (x : Option Addr) (x_6 x_7 : Nat) (x_8
 : Option Addr) (x_9 x_10 : Nat) (x_11 : Bool), v = Value.tuple #[Value.slice x x_6 x_7, Value.slice x_8 x_9 x_10, Value.bool x_11] ∧ S w' ∧ K (Value.tuple #[Value.slice x x_6 x_7, Value.slice x_8 x_9
 x_10, Value.bool x_11]) w'
theorem cursor_Cursor_Seek_2.calls (ok : Okay Tryz.prog) {a0 : Addr} {a1 : Addr} {w : World} {K : Value → World → Prop} (h : cursor_Cursor_Seek_2.W a0 a1 w K) : CallsV Tryz.prog 43 #[.pointer (some a0), .pointer (some a1)] w K :=
  fnW_calls ok Tryz.func43 (an := (.named .auto)) (args := [.pointer (some a0), .pointer (some a1)]) (Eq.mp (by kernel_rfl) h)
noncomputable def cursor_Cursor_Seek_3.W : Addr → Addr → World → (Value → World → Prop) → Prop := fun (a0 a1 : Addr) (w : World) (K : Value → World → Prop) => ∃ (S : World → Prop), S (World.drew w) ∧ ∃
 (x : Option Addr), (∀ (u : World), S u → World.cell? u a0 = some (Value.pointer x)) ∧ ∃ (a : Addr), x = some a ∧ ∃ (x : Option Addr), (∀ (u : World), S u → World.cell? u (Addr.add a 0) =
 some (Value.pointer x)) ∧ ∃ (x_1 : Option Addr), (∀ (u : World), S u → World.cell? u a0 = some (Value.pointer x_1)) ∧ ∃ (a : Addr), x_1 = some a ∧ ∃ (x_2 : Int), (∀ (u : World), S
 u → World.cell? u (Addr.add a 1) = some (Value.int IntKind.i64 x_2)) ∧ ∃ (x_3 : Option Addr) (x_4 x_5 : Nat), (∀ (u : World), S u → World.cell? u a1 = some (Value.slice x_3 x_4 x_5)) ∧
 CallsV Tryz.prog 45 #[Value.pointer x, Value.int IntKind.i64 x_2, Value.slice x_3 x_4 x_5, Value.bool true] (World.drew w) fun (v : Value) (w' : World) => ∃ (x : Option Addr) (x_6 x_7 : Nat) (x_8
 : Option Addr) (x_9 x_10 : Nat) (x_11 : Bool), v = Value.tuple #[Value.slice x x_6 x_7, Value.slice x_8 x_9 x_10, Value.bool x_11] ∧ S w' ∧ K (Value.tuple #[Value.slice x x_6 x_7, Value.slice x_8 x_9
 x_10, Value.bool x_11]) w'
theorem cursor_Cursor_Seek_3.calls (ok : Okay Tryz.prog) {a0 : Addr} {a1 : Addr} {w : World} {K : Value → World → Prop} (h : cursor_Cursor_Seek_3.W a0 a1 w K) : CallsV Tryz.prog 44 #[.pointer (some a0), .pointer (some a1)] w K :=
  fnW_calls ok Tryz.func44 (an := (.named .auto)) (args := [.pointer (some a0), .pointer (some a1)]) (Eq.mp (by kernel_rfl) h)
noncomputable def cursor_Cursor_Seek_4.W : Addr → Addr → World → (Value → World → Prop) → Prop := fun (a0 a1 : Addr) (w : World) (K : Value → World → Prop) => ∃ (S : World → Prop), S (World.drew w) ∧ ∃
 (x : Option Addr), (∀ (u : World), S u → World.cell? u a0 = some (Value.pointer x)) ∧ ∃ (a : Addr), x = some a ∧ ∃ (x : Option Addr), (∀ (u : World), S u → World.cell? u (Addr.add a 0) =
 some (Value.pointer x)) ∧ ∃ (x_1 : Option Addr), (∀ (u : World), S u → World.cell? u a0 = some (Value.pointer x_1)) ∧ ∃ (a : Addr), x_1 = some a ∧ ∃ (x_2 : Int), (∀ (u : World), S
 u → World.cell? u (Addr.add a 1) = some (Value.int IntKind.i64 x_2)) ∧ ∃ (x_3 : Option Addr) (x_4 x_5 : Nat), (∀ (u : World), S u → World.cell? u a1 = some (Value.slice x_3 x_4 x_5)) ∧
 CallsV Tryz.prog 45 #[Value.pointer x, Value.int IntKind.i64 x_2, Value.slice x_3 x_4 x_5, Value.bool false] (World.drew w) fun (v : Value) (w' : World) => ∃ (x : Option Addr) (x_6 x_7 : Nat) (x_8
 : Option Addr) (x_9 x_10 : Nat) (x_11 : Bool), v = Value.tuple #[Value.slice x x_6 x_7, Value.slice x_8 x_9 x_10, Value.bool x_11] ∧ S w' ∧ K (Value.tuple #[Value.slice x x_6 x_7, Value.slice x_8 x_9
 x_10, Value.bool x_11]) w'
theorem cursor_Cursor_Seek_4.calls (ok : Okay Tryz.prog) {a0 : Addr} {a1 : Addr} {w : World} {K : Value → World → Prop} (h : cursor_Cursor_Seek_4.W a0 a1 w K) : CallsV Tryz.prog 46 #[.pointer (some a0), .pointer (some a1)] w K :=
  fnW_calls ok Tryz.func46 (an := (.named .auto)) (args := [.pointer (some a0), .pointer (some a1)]) (Eq.mp (by kernel_rfl) h)
noncomputable def bytes_Clone.W : Option Addr → Nat → Nat → World → (Value → World → Prop) → Prop := fun (b_A : Option Addr) (b_n b_c : Nat) (w : World) (K : Value → World → Prop) => bif Option.isNone
 b_A then K (Value.slice none 0 0) w else ∀ (g : Nat) (w' : World), Fresh w g w' [] 5 → ∃ (x : Option Addr) (x_1 x_2 : Nat) (w'_1 : World), RunsTo Tryz.prog (Builtin.append_ (Array.mk [30, 30])
 30 #[Value.slice (some (Addr.mk g 0 none)) 0 0, Value.slice b_A b_n b_c]) w' (Value.slice x x_1 x_2) w'_1 ∧ K (Value.slice x x_1 x_2) w'_1
theorem bytes_Clone.calls (ok : Okay Tryz.prog) {b_A : Option Addr} {b_n : Nat} {b_c : Nat} {w : World} {K : Value → World → Prop} (h : bytes_Clone.W b_A b_n b_c w K) : CallsV Tryz.prog 57 #[.slice b_A b_n b_c] w K :=
  fnW_calls ok Tryz.func57 (an := (.named .auto)) (args := [.slice b_A b_n b_c]) (Eq.mp (by kernel_rfl) h)
noncomputable def slices_Contains_int_int.W : Option Addr → Nat → Nat → Int → World → (Value → World → Prop) → Prop := fun (s_A : Option Addr) (s_n s_c : Nat) (v : Int) (w : World) (K : Value → World →
 Prop) => CallsV Tryz.prog 74 #[Value.slice s_A s_n s_c, Value.int IntKind.i64 v] w fun (v : Value) (w' : World) => ∃ (x : Int), v = Value.int IntKind.i64 x ∧ K (Value.bool (decide ((0 : Int)
 ≤ x))) w'
theorem slices_Contains_int_int.calls (ok : Okay Tryz.prog) {s_A : Option Addr} {s_n : Nat} {s_c : Nat} {v : Int} {w : World} {K : Value → World → Prop} (h : slices_Contains_int_int.W s_A s_n s_c v w K) : CallsV Tryz.prog 48 #[.slice s_A s_n s_c, .int .i64 v] w K :=
  fnW_calls ok Tryz.func48 (an := (.named .auto)) (args := [.slice s_A s_n s_c, .int .i64 v]) (Eq.mp (by kernel_rfl) h)
noncomputable def slices_Index_int_int.W : Option Addr → Nat → Nat → Int → World → (Value → World → Prop) → Prop := fun (s_A : Option Addr) (s_n s_c : Nat) (v : Int) (w : World) (K : Value → World →
 Prop) => ∃ (I : Int → World → Prop) (μ : Int → World → Nat), I (0 : Int) w ∧ ∀ (x : Int) (w : World), I x w → bif decide (x < (↑s_n : Int)) then ∃ (ad : Addr), s_A = some ad ∧ ((0 :
 Int) ≤ x ∧ x < (↑s_n : Int)) ∧ ∃ (x_1 : Int), World.cell? w (Addr.add ad (Int.toNat x * 1)) = some (Value.int IntKind.i64 x_1) ∧ bif decide (v = x_1) then K (Value.int IntKind.i64 x) w
 else I (IntKind.wrap IntKind.i64 (x + (1 : Int))) w ∧ μ (IntKind.wrap IntKind.i64 (x + (1 : Int))) w < μ x w else K (Value.int IntKind.i64 (-1 : Int)) w
theorem slices_Index_int_int.calls (ok : Okay Tryz.prog) {s_A : Option Addr} {s_n : Nat} {s_c : Nat} {v : Int} {w : World} {K : Value → World → Prop} (h : slices_Index_int_int.W s_A s_n s_c v w K) : CallsV Tryz.prog 74 #[.slice s_A s_n s_c, .int .i64 v] w K :=
  fnW_calls ok Tryz.func74 (an := (.named (.seq .auto (.seq (.seq .auto (.block (.loop [(8, .one (.int .i64))] .auto))) .auto)))) (args := [.slice s_A s_n s_c, .int .i64 v]) (Eq.mp (by kernel_rfl) h)
end Go.Proofs.YthfagbfllheneaaGreat
set_option linter.unusedVariables false
set_option linter.unusedSimpArgs false
namespace Go.Proofs.YthfagbfllheneaaGreat
open Go Go.Sx T4
def KeyAt (Ω : Nat → Prop) (w : World) (k : Option Key) (KA : Option Addr) (n : Nat) (ok : Bool) : Prop := match k with
  | none => ok = false
  | some key => ok = true ∧ n = key.length ∧ key.length ≤ 1048576 ∧ Imm KB Ω w KA key
theorem KeyAt.keep {Ω Ω' : Nat → Prop} {w w' : World} {k : Option Key} {KA : Option Addr} {n : Nat} {ok : Bool} (h : KeyAt Ω w k KA n ok) (st : Step Ω w Ω' w') : KeyAt Ω' w' k KA n ok := by
  cases k with
  | none => exact h
  | some key => exact ⟨h.1, h.2.1, h.2.2.1, h.2.2.2.keep KB_pos st⟩
def Cur (Ω : Nat → Prop) (w : World) (g s : Nat) (id : Int) (k : Option Key) : Prop := ∃ KA n c ok, Blk w g [.pointer (some ⟨s, 0, none⟩), .int .i64 id, .slice KA n c, .bool ok] ∧ KeyAt Ω w k KA n ok
section
variable {Ω : Nat → Prop} {w : World} {g s : Nat} {id : Int} {k : Option Key}
theorem Cur.fr (h : Cur Ω w g s id k) {S Ω' : Nat → Prop} {w' : World} (f : Fr S w w') (hg : ¬ S g) (hS : ∀ k, k < w.heap.size → S k → Ω k) (hΩ : ∀ k, k < w.heap.size → Ω' k → Ω k) : Cur Ω' w' g s id k := by
  obtain ⟨KA, n, c, ok, hb, hk⟩ := h
  exact ⟨KA, n, c, ok, hb.keep f hg, hk.keep (f.step hS hΩ)⟩
theorem Cur.ext (h : Cur Ω w g s id k) {w' : World} (e : Ext w w') : Cur Ω w' g s id k := h.fr e (fun h => h) (fun _ _ h => h.elim) fun _ _ h => h
theorem Cur.lt (h : Cur Ω w g s id k) : g < w.heap.size := by obtain ⟨_, _, _, _, hb, _⟩ := h; exact hb.lt
theorem cMade (h : Cur Ω w g s id k) : CallsV Tryz.prog 40 #[.pointer (some ⟨g, 0, none⟩)] w fun r w' => r = .bool true ∧ w' = w := by
  obtain ⟨KA, n, c, ok, hb, hk⟩ := h
  refine cursor_Cursor_made.calls okay ?_
  unfold cursor_Cursor_made.W
  exact brnb (fun _ => ⟨_, rfl, _, hb.cell rfl, rfl, rfl⟩) fun h => by cases h
theorem cPut {v0 v1 : Value} {v2 v3 : Value} (hb : Blk w g [.pointer (some ⟨s, 0, none⟩), v1, v2, v3]) (KA VA : Option Addr) (kn kc vn vc : Nat) (ok : Bool) : CallsV Tryz.prog 47 #[.pointer (some ⟨g, 0, none⟩), .slice KA kn kc, .slice VA vn vc, .bool ok] w fun r w' => r = .bool ok ∧ Blk w' g [.pointer (some ⟨s, 0, none⟩), v1, .slice KA kn kc, .bool ok] ∧ Fr (fun k => k = g) w w' := by
  refine cursor_Cursor_put.calls okay ?_
  unfold cursor_Cursor_put.W
  obtain ⟨p1, p2⟩ := setF hb (o := 2) (by simp) (.slice KA kn kc)
  refine br (fun h => by cases h) fun _ => ⟨_, rfl, _, hb.cell rfl, br (fun h => by cases h) fun _ => ⟨_, rfl, p1, fun w1 hw1 => ?_⟩⟩
  obtain ⟨b1, f1⟩ := p2 w1 hw1
  obtain ⟨q1, q2⟩ := setF b1 (o := 3) (by simp) (.bool ok)
  refine ⟨_, rfl, q1, fun w2 hw2 => ?_⟩
  obtain ⟨b2, f2⟩ := q2 w2 hw2
  exact ⟨rfl, by simpa using b2, f1.trans f2 (fun _ _ h => h) (fun _ _ h => h)⟩
end
theorem toldLen {w w' : World} {x : Option (Key × Key)} {r : Value} (h : Told w x r w') : ∀ p, x = some p → p.1.length ≤ 1048576 := by
  rintro ⟨k, v⟩ rfl
  obtain ⟨A, c, B, d, _, _, _, _, _, _, h6, _⟩ := h
  exact h6
theorem move {Ω : Nat → Prop} {u v w' : World} {g s : Nat} {id : Int} {x : Option (Key × Key)} {KA : Option Addr} {kn kc : Nat} {ok : Bool} {VA : Option Addr} {vn : Nat} (hΩ : ∀ k, Ω k → k < u.heap.size) (hg : Ω g) (hx : ∀ p, x = some p → p.1.length ≤ 1048576) (ti : TI Ω v x KA kn VA vn ok) (e : Ext u v) (hb : Blk w' g [.pointer (some ⟨s, 0, none⟩), .int .i64 id, .slice KA kn kc, .bool ok]) (f : Fr (fun k => k = g) v w') :
    ok = x.isSome ∧ Cur Ω w' g s id (x.map fun p => p.1) ∧ Fr (fun k => k = g) u w' := by
  have f' : Fr (fun k => k = g) u w' := (Fr.mono e fun _ _ h => h.elim).trans f (fun _ _ h => h) (fun _ _ h => h)
  have st : Step Ω v Ω w' := f.step (fun k _ e => by have e : k = g := e; exact e ▸ hg) fun _ _ h => h
  cases x with
  | none => obtain ⟨_, _, _, _, rfl⟩ := ti; exact ⟨rfl, ⟨_, _, _, _, hb, rfl⟩, f'⟩
  | some p => obtain ⟨h1, _, rfl, h3, _⟩ := ti; exact ⟨rfl, ⟨_, _, _, _, hb, rfl, h1, hx p rfl, h3.keep KB_pos st⟩, f'⟩
section
variable {T Ω : Nat → Prop} {u : World} {s g : Nat} {q : Ab} {id : Int} {k : Option Key}
theorem cRewind (h : Sto T u s q) (hc : Cur Ω u g s id k) (hΩ : ∀ k, Ω k → k < u.heap.size) (hg : Ω g) (hgT : ¬ T g) : CallsV Tryz.prog 13 #[.pointer (some ⟨g, 0, none⟩)] u fun r u' => ∃ x, x = (gF (foD q.D) id).bind (aftE [] true) ∧ r = .bool x.isSome ∧ Cur Ω u' g s id (x.map fun p => p.1) ∧ Fr (fun k => k = g) u u' := by
  refine cursor_Cursor_Rewind.calls okay ?_
  unfold cursor_Cursor_Rewind.W
  have ed : Ext u u.drew := Fr.drew NoB u
  refine (cMade (hc.ext ed)).same ⟨_, rfl, br (fun _ => ?_) fun h => by cases h⟩
  obtain ⟨KA, n, c, ok, hb, hk⟩ := hc
  refine ⟨_, rfl, fun v => Ext u v, ed, _, fun v e => (hb.ext e).cell rfl, _, rfl, _, fun v e => (hb.ext e).cell rfl, (sAfter (h.ext ed) id (key := []) (Imm.nil KB NoB _ none) 0 true).mono ?_⟩
  rintro r v ⟨ht, e⟩
  have e2 := ed.trans' e
  obtain ⟨KA', kn, kc, VA, vn, vc, ok', rfl, hti⟩ := ht.ti (Ω := Ω) (fun k hk => by have := hΩ k hk; have := ed.size; omega)
  refine ⟨_, _, _, _, _, _, _, rfl, (cPut (v0 := .bool true) (hb.ext e2) KA' VA kn kc vn vc ok').mono ?_⟩
  rintro _ w' ⟨rfl, hb', f⟩
  obtain ⟨h1, h2, h3⟩ := move hΩ hg (toldLen ht) hti e2 hb' f
  exact ⟨_, rfl, _, rfl, by rw [h1], h2, h3⟩
theorem cLast (h : Sto T u s q) (hc : Cur Ω u g s id k) (hΩ : ∀ k, Ω k → k < u.heap.size) (hg : Ω g) (hgT : ¬ T g) : CallsV Tryz.prog 12 #[.pointer (some ⟨g, 0, none⟩)] u fun r u' => ∃ x, x = (gF (foD q.D) id).bind (fun es => es.getLast?) ∧ r = .bool x.isSome ∧ Cur Ω u' g s id (x.map fun p => p.1) ∧ Fr (fun k => k = g) u u' := by
  refine cursor_Cursor_Last.calls okay ?_
  unfold cursor_Cursor_Last.W
  have ed : Ext u u.drew := Fr.drew NoB u
  refine (cMade (hc.ext ed)).same ⟨_, rfl, br (fun _ => ?_) fun h => by cases h⟩
  obtain ⟨KA, n, c, ok, hb, hk⟩ := hc
  refine ⟨_, rfl, fun v => Ext u v, ed, _, fun v e => (hb.ext e).cell rfl, _, rfl, _, fun v e => (hb.ext e).cell rfl, (sLast (h.ext ed) id).mono ?_⟩
  rintro r v ⟨ht, e⟩
  have e2 := ed.trans' e
  obtain ⟨KA', kn, kc, VA, vn, vc, ok', rfl, hti⟩ := ht.ti (Ω := Ω) (fun k hk => by have := hΩ k hk; have := ed.size; omega)
  refine ⟨_, _, _, _, _, _, _, rfl, (cPut (v0 := .bool true) (hb.ext e2) KA' VA kn kc vn vc ok').mono ?_⟩
  rintro _ w' ⟨rfl, hb', f⟩
  obtain ⟨h1, h2, h3⟩ := move hΩ hg (toldLen ht) hti e2 hb' f
  exact ⟨_, rfl, _, rfl, by rw [h1], h2, h3⟩
theorem cEntry (h : Sto T u s q) (hc : Cur Ω u g s id k) : CallsV Tryz.prog 58 #[.pointer (some ⟨g, 0, none⟩)] u fun r u' => ∃ KA kn kc VA vn vc ok, r = .tuple #[.slice KA kn kc, .slice VA vn vc, .bool ok] ∧ Ext u u' ∧ (match k with
    | none => VA = none ∧ vn = 0 ∧ ok = false
    | some key => kn = key.length ∧ key.length ≤ 1048576 ∧ Imm KB Ω u' KA key ∧ match (gF (foD q.D) id).bind (getE key) with
      | none => VA = none ∧ vn = 0 ∧ ok = false
      | some v => vn = v.length ∧ OwnB u' VA vc v ∧ New u VA ∧ ok = true) := by
  refine cursor_Cursor_entry.calls okay ?_
  unfold cursor_Cursor_entry.W
  refine (cMade hc).same ⟨_, rfl, brnb (fun h => by cases h) fun _ => ?_⟩
  obtain ⟨KA, n, c, ok, hb, hk⟩ := hc
  refine ⟨_, rfl, _, hb.cell rfl, ?_⟩
  cases k with
  | none =>
    have hk : ok = false := hk
    subst hk
    exact brnb (fun _ => ⟨_, _, _, _, _, _, _, rfl, .refl _ _, rfl, rfl, rfl⟩) fun h => by cases h
  | some key =>
    obtain ⟨rfl, rfl, hkl, iK⟩ := hk
    have ed : Ext u u.drew := Fr.drew NoB u
    refine brnb (fun h => by cases h) fun _ => ⟨_, rfl, fun v => Ext u v, ed, _, fun v e => (hb.ext e).cell rfl, _, rfl, _, fun v e => (hb.ext e).cell rfl, _, rfl, _, _, _, fun v e => (hb.ext e).cell rfl, (sGet (h.ext ed) id (iK.ext KB_pos ed) c).mono ?_⟩
    rintro r v ⟨e, hG⟩
    have e2 := ed.trans' e
    dsimp only
    generalize (gF (foD q.D) id).bind (getE key) = x at hG
    cases x with
    | none =>
      obtain rfl : r = .tuple #[.slice none 0 0, .bool false] := hG
      exact ⟨_, _, _, _, rfl, _, rfl, _, _, _, (hb.ext e2).cell rfl, _, _, _, _, _, _, _, rfl, e2, rfl, hkl, iK.ext KB_pos e2, rfl, rfl, rfl⟩
    | some val =>
      obtain ⟨B, d, rfl, hO, hN, _⟩ := hG
      exact ⟨_, _, _, _, rfl, _, rfl, _, _, _, (hb.ext e2).cell rfl, _, _, _, _, _, _, _, rfl, e2, rfl, hkl, iK.ext KB_pos e2, rfl, hO, hN.ext ed, rfl⟩
end
end Go.Proofs.YthfagbfllheneaaGreat
set_option linter.unusedVariables false
set_option maxRecDepth 100000
namespace Go.Proofs.YthfagbfllheneaaGreat
open Go Go.Sx
noncomputable def cursor_Cursor_Next.W : Option Addr → World → (Value → World → Prop) → Prop := fun (c : Option Addr) (w : World) (K : Value → World → Prop) => CallsV Tryz.prog 40 #[Value.pointer c]
 (World.drew w) fun (v : Value) (w' : World) => ∃ (x : Bool), v = Value.bool x ∧ bif x then ∃ (a : Addr), c = some a ∧ ∃ (S : World → Prop), S w' ∧ ∃ (x : Bool), (∀ (u : World), S u → World.cell?
 u (Addr.add a 3) = some (Value.bool x)) ∧ bif x then ∃ (a : Addr), c = some a ∧ ∃ (S' : World → Prop), S' w' ∧ ∃ (x : Option Addr), (∀ (u : World), S' u → World.cell? u (Addr.add a 0) =
 some (Value.pointer x)) ∧ ∃ (a : Addr), c = some a ∧ ∃ (S' : World → Prop), S' w' ∧ ∃ (x_1 : Int), (∀ (u : World), S' u → World.cell? u (Addr.add a 1) = some (Value.int IntKind.i64
 x_1)) ∧ ∃ (a : Addr), c = some a ∧ ∃ (S' : World → Prop), S' w' ∧ ∃ (x_2 : Option Addr) (x_3 x_4 : Nat), (∀ (u : World), S' u → World.cell? u (Addr.add a 2) = some (Value.slice x_2 x_3
 x_4)) ∧ CallsV Tryz.prog 42 #[Value.pointer x, Value.int IntKind.i64 x_1, Value.slice x_2 x_3 x_4, Value.bool false] w' fun (v : Value) (w' : World) => ∃ (x : Option Addr) (x_5 x_6 : Nat) (x_7 :
 Option Addr) (x_8 x_9 : Nat) (x_10 : Bool), v = Value.tuple #[Value.slice x x_5 x_6, Value.slice x_7 x_8 x_9, Value.bool x_10] ∧ CallsV Tryz.prog 47 #[Value.pointer c, Value.slice x x_5 x_6,
 Value.slice x_7 x_8 x_9, Value.bool x_10] w' fun (v : Value) (w' : World) => ∃ (x : Bool), v = Value.bool x ∧ K (Value.bool x) w' else K (Value.bool false) w' else K (Value.bool false) w'
theorem cursor_Cursor_Next.calls (ok : Okay Tryz.prog) {c : Option Addr} {w : World} {K : Value → World → Prop} (h : cursor_Cursor_Next.W c w K) : CallsV Tryz.prog 9 #[.pointer c] w K :=
  fnW_calls ok Tryz.func9 (an := (.named (.seq .auto (.seq (.block .auto) .auto)))) (args := [.pointer c]) (Eq.mp (by kernel_rfl) h)
noncomputable def cursor_Cursor_Prev.W : Option Addr → World → (Value → World → Prop) → Prop := fun (c : Option Addr) (w : World) (K : Value → World → Prop) => CallsV Tryz.prog 40 #[Value.pointer c]
 (World.drew w) fun (v : Value) (w' : World) => ∃ (x : Bool), v = Value.bool x ∧ bif x then ∃ (a : Addr), c = some a ∧ ∃ (S : World → Prop), S w' ∧ ∃ (x : Bool), (∀ (u : World), S u → World.cell?
 u (Addr.add a 3) = some (Value.bool x)) ∧ bif x then ∃ (a : Addr), c = some a ∧ ∃ (S' : World → Prop), S' w' ∧ ∃ (x : Option Addr), (∀ (u : World), S' u → World.cell? u (Addr.add a 0) =
 some (Value.pointer x)) ∧ ∃ (a : Addr), c = some a ∧ ∃ (S' : World → Prop), S' w' ∧ ∃ (x_1 : Int), (∀ (u : World), S' u → World.cell? u (Addr.add a 1) = some (Value.int IntKind.i64
 x_1)) ∧ ∃ (a : Addr), c = some a ∧ ∃ (S' : World → Prop), S' w' ∧ ∃ (x_2 : Option Addr) (x_3 x_4 : Nat), (∀ (u : World), S' u → World.cell? u (Addr.add a 2) = some (Value.slice x_2 x_3
 x_4)) ∧ CallsV Tryz.prog 45 #[Value.pointer x, Value.int IntKind.i64 x_1, Value.slice x_2 x_3 x_4, Value.bool false] w' fun (v : Value) (w' : World) => ∃ (x : Option Addr) (x_5 x_6 : Nat) (x_7 :
 Option Addr) (x_8 x_9 : Nat) (x_10 : Bool), v = Value.tuple #[Value.slice x x_5 x_6, Value.slice x_7 x_8 x_9, Value.bool x_10] ∧ CallsV Tryz.prog 47 #[Value.pointer c, Value.slice x x_5 x_6,
 Value.slice x_7 x_8 x_9, Value.bool x_10] w' fun (v : Value) (w' : World) => ∃ (x : Bool), v = Value.bool x ∧ K (Value.bool x) w' else K (Value.bool false) w' else K (Value.bool false) w'
theorem cursor_Cursor_Prev.calls (ok : Okay Tryz.prog) {c : Option Addr} {w : World} {K : Value → World → Prop} (h : cursor_Cursor_Prev.W c w K) : CallsV Tryz.prog 10 #[.pointer c] w K :=
  fnW_calls ok Tryz.func10 (an := (.named (.seq .auto (.seq (.block .auto) .auto)))) (args := [.pointer c]) (Eq.mp (by kernel_rfl) h)
end Go.Proofs.YthfagbfllheneaaGreat
set_option linter.unusedVariables false
set_option linter.unusedSimpArgs false
namespace Go.Proofs.YthfagbfllheneaaGreat
open Go Go.Sx T4
section
variable {T Ω : Nat → Prop} {u : World} {s g : Nat} {q : Ab} {id : Int} {k : Option Key}
def nextX (F : List (Int × Es)) (id : Int) : Option Key → Option (Key × Key)
  | none => none
  | some key => (gF F id).bind (aftE key false)
def prevX (F : List (Int × Es)) (id : Int) : Option Key → Option (Key × Key)
  | none => none
  | some key => (gF F id).bind (befE key false)
theorem cNext (h : Sto T u s q) (hc : Cur Ω u g s id k) (hΩ : ∀ k, Ω k → k < u.heap.size) (hg : Ω g) : CallsV Tryz.prog 9 #[.pointer (some ⟨g, 0, none⟩)] u fun r u' => r = .bool (nextX (foD q.D) id k).isSome ∧ Cur Ω u' g s id ((nextX (foD q.D) id k).map fun p => p.1) ∧ Fr (fun k => k = g) u u' := by
  refine cursor_Cursor_Next.calls okay ?_
  unfold cursor_Cursor_Next.W
  have ed : Ext u u.drew := Fr.drew NoB u
  refine (cMade (hc.ext ed)).same ⟨_, rfl, br (fun _ => ?_) fun h => by cases h⟩
  have hcd := hc.ext ed
  obtain ⟨KA, n, c, ok, hb, hk⟩ := hc
  refine ⟨_, rfl, fun v => Ext u v, ed, _, fun v e => (hb.ext e).cell rfl, ?_⟩
  cases k with
  | none =>
    have hk : ok = false := hk
    subst hk
    exact br (fun h => by cases h) fun _ => ⟨rfl, hcd, Fr.mono ed fun _ _ h => h.elim⟩
  | some key =>
    obtain ⟨rfl, rfl, hkl, iK⟩ := hk
    refine br (fun _ => ⟨_, rfl, fun v => Ext u v, ed, _, fun v e => (hb.ext e).cell rfl, _, rfl, fun v => Ext u v, ed, _, fun v e => (hb.ext e).cell rfl, _, rfl, fun v => Ext u v, ed, _, _, _, fun v e => (hb.ext e).cell rfl, (sAfter (h.ext ed) id (iK.ext KB_pos ed) c false).mono ?_⟩) fun h => by cases h
    rintro r v ⟨ht, e⟩
    have e2 := ed.trans' e
    obtain ⟨KA', kn, kc, VA, vn, vc, ok', rfl, hti⟩ := ht.ti (Ω := Ω) (fun k hk => by have := hΩ k hk; have := ed.size; omega)
    refine ⟨_, _, _, _, _, _, _, rfl, (cPut (v0 := .bool true) (hb.ext e2) KA' VA kn kc vn vc ok').mono ?_⟩
    rintro _ w' ⟨rfl, hb', f⟩
    obtain ⟨h1, h2, h3⟩ := move hΩ hg (toldLen ht) hti e2 hb' f
    exact ⟨_, rfl, by rw [h1]; rfl, h2, h3⟩
theorem cPrev (h : Sto T u s q) (hc : Cur Ω u g s id k) (hΩ : ∀ k, Ω k → k < u.heap.size) (hg : Ω g) : CallsV Tryz.prog 10 #[.pointer (some ⟨g, 0, none⟩)] u fun r u' => r = .bool (prevX (foD q.D) id k).isSome ∧ Cur Ω u' g s id ((prevX (foD q.D) id k).map fun p => p.1) ∧ Fr (fun k => k = g) u u' := by
  refine cursor_Cursor_Prev.calls okay ?_
  unfold cursor_Cursor_Prev.W
  have ed : Ext u u.drew := Fr.drew NoB u
  refine (cMade (hc.ext ed)).same ⟨_, rfl, br (fun _ => ?_) fun h => by cases h⟩
  have hcd := hc.ext ed
  obtain ⟨KA, n, c, ok, hb, hk⟩ := hc
  refine ⟨_, rfl, fun v => Ext u v, ed, _, fun v e => (hb.ext e).cell rfl, ?_⟩
  cases k with
  | none =>
    have hk : ok = false := hk
    subst hk
    exact br (fun h => by cases h) fun _ => ⟨rfl, hcd, Fr.mono ed fun _ _ h => h.elim⟩
  | some key =>
    obtain ⟨rfl, rfl, hkl, iK⟩ := hk
    refine br (fun _ => ⟨_, rfl, fun v => Ext u v, ed, _, fun v e => (hb.ext e).cell rfl, _, rfl, fun v => Ext u v, ed, _, fun v e => (hb.ext e).cell rfl, _, rfl, fun v => Ext u v, ed, _, _, _, fun v e => (hb.ext e).cell rfl, (sBefore (h.ext ed) id (iK.ext KB_pos ed) c false).mono ?_⟩) fun h => by cases h
    rintro r v ⟨ht, e⟩
    have e2 := ed.trans' e
    obtain ⟨KA', kn, kc, VA, vn, vc, ok', rfl, hti⟩ := ht.ti (Ω := Ω) (fun k hk => by have := hΩ k hk; have := ed.size; omega)
    refine ⟨_, _, _, _, _, _, _, rfl, (cPut (v0 := .bool true) (hb.ext e2) KA' VA kn kc vn vc ok').mono ?_⟩
    rintro _ w' ⟨rfl, hb', f⟩
    obtain ⟨h1, h2, h3⟩ := move hΩ hg (toldLen ht) hti e2 hb' f
    exact ⟨_, rfl, by rw [h1]; rfl, h2, h3⟩
def atX (F : List (Int × Es)) (id : Int) : Option Key → Option (Key × Key)
  | none => none
  | some key => ((gF F id).bind (getE key)).map fun v => (key, v)
theorem cValid (h : Sto T u s q) (hc : Cur Ω u g s id k) : CallsV Tryz.prog 17 #[.pointer (some ⟨g, 0, none⟩)] u fun r u' => r = .bool (atX (foD q.D) id k).isSome ∧ Ext u u' := by
  refine cursor_Cursor_Valid.calls okay ?_
  unfold cursor_Cursor_Valid.W
  refine (cEntry h hc).mono ?_
  rintro _ u' ⟨KA, kn, kc, VA, vn, vc, ok, rfl, e, hx⟩
  refine ⟨_, _, _, _, _, _, _, rfl, ?_, e⟩
  cases k with
  | none => obtain ⟨_, _, rfl⟩ := hx; rfl
  | some key =>
    obtain ⟨_, _, _, hx⟩ := hx
    show Value.bool ok = .bool (((gF (foD q.D) id).bind (getE key)).map fun v => (key, v)).isSome
    generalize (gF (foD q.D) id).bind (getE key) = x at hx
    cases x with
    | none => obtain ⟨_, _, rfl⟩ := hx; rfl
    | some v => obtain ⟨_, _, _, rfl⟩ := hx; rfl
theorem cValue (h : Sto T u s q) (hc : Cur Ω u g s id k) : CallsV Tryz.prog 39 #[.pointer (some ⟨g, 0, none⟩)] u fun r u' => Ext u u' ∧ match atX (foD q.D) id k with
    | none => ∃ c, r = .slice none 0 c
    | some (_, v) => ∃ A c, r = .slice A v.length c ∧ OwnB u' A c v ∧ New u A := by
  refine cursor_Cursor_Value.calls okay ?_
  unfold cursor_Cursor_Value.W
  refine (cEntry h hc).mono ?_
  rintro _ u' ⟨KA, kn, kc, VA, vn, vc, ok, rfl, e, hx⟩
  refine ⟨_, _, _, _, _, _, _, rfl, e, ?_⟩
  cases k with
  | none => obtain ⟨rfl, rfl, rfl⟩ := hx; exact ⟨_, rfl⟩
  | some key =>
    obtain ⟨_, _, _, hx⟩ := hx
    show match ((gF (foD q.D) id).bind (getE key)).map fun v => (key, v) with
      | none => _
      | some (_, v) => _
    generalize (gF (foD q.D) id).bind (getE key) = x at hx
    cases x with
    | none => obtain ⟨rfl, rfl, rfl⟩ := hx; exact ⟨_, rfl⟩
    | some v => obtain ⟨rfl, h1, h2, rfl⟩ := hx; exact ⟨_, _, rfl, h1, h2⟩
end
end Go.Proofs.YthfagbfllheneaaGreat
set_option linter.unusedVariables false
set_option linter.unusedSimpArgs false
namespace Go.Proofs.YthfagbfllheneaaGreat
open Go Go.Sx T4
theorem bClone {Ω : Nat → Prop} {w : World} {A : Option Addr} {c : Nat} {l : List UInt8} (h : Imm KB Ω w A l) (hl : l.length ≤ 1048576) : CallsV Tryz.prog 57 #[.slice A l.length c] w fun r w' => ∃ A' c', r = .slice A' l.length c' ∧ OwnB w' A' c' l ∧ Ext w w' ∧ New w A' := by
  refine bytes_Clone.calls okay ?_
  unfold bytes_Clone.W
  cases A with
  | none =>
    have hnil : l = [] := by
      cases l with
      | nil => rfl
      | cons a r => obtain ⟨ad, hA, _⟩ := h 0 a rfl; cases hA
    subst hnil
    exact br (fun _ => ⟨none, 0, rfl, OwnB.nil w, .refl _ _, New.none _⟩) fun h => by cases h
  | some a =>
    refine br (fun h => by cases h) fun _ => ?_
    rintro g w1 ⟨rfl, rfl⟩
    have e1 : Ext w (w.alloc (.cells #[] 5)) := Fr.alloc NoB w _
    have ho : OwnK KB (w.alloc (.cells #[] 5)) (some ⟨w.heap.size, 0, none⟩) 0 [] := ⟨[], ⟨rfl, Nat.zero_le _, .inr ⟨w.heap.size, #[], 5, 0, 0, rfl, Array.getElem?_push_size, Nat.le_refl _, rfl, rfl, .inl (Nat.le_refl _)⟩⟩, fun i a h => by simp at h⟩
    have hB : Imm KB (ownB (some ⟨w.heap.size, 0, none⟩)) (w.alloc (.cells #[] 5)) (some a) l := (h.sub (Ω' := NoB) KB_pos fun _ _ h => h.elim).toOwn KB_pos e1 (by rintro k ⟨ad, had, rfl⟩; cases had; exact Nat.le_refl _)
    obtain ⟨A', c', w', hr, ho', gr⟩ := ho.append (K := KB) slB (ty := 30) hB (cb := c) (fun a cs h v hv => by cases h; simp at hv; subst hv; rfl) (by show 0 + l.length ≤ maxLen; simp only [maxLen]; omega) (by show (0 + l.length) * 1 ≤ _; omega)
    rw [List.nil_append] at hr ho'
    have hs : w.heap.size ≤ (w.alloc (.cells #[] 5)).heap.size := e1.size
    refine ⟨_, _, _, w', hr, A', c', rfl, ownB_of (Ω := NoB) ho', e1.trans gr.fr (fun _ _ h => h) (fun k hk ho => ?_), fun k hk => (gr.sub k hk).elim (fun h => ?_) fun h => Nat.le_trans hs h⟩
    · obtain ⟨ad, had, rfl⟩ := ho; cases had; exact absurd hk (Nat.lt_irrefl _)
    · obtain ⟨ad, had, rfl⟩ := h; cases had; exact Nat.le_refl _
theorem Index_spec {Ω : Nat → Prop} {w : World} {A : Option Addr} {c : Nat} {l : List Int} (h : Imm KI Ω w A l) (hl : l.length ≤ 1000000) (v : Int) : CallsV Tryz.prog 48 #[.slice A l.length c, .int .i64 v] w fun r w' => r = .bool (decide (v ∈ l)) ∧ w' = w := by
  refine slices_Contains_int_int.calls okay ?_
  unfold slices_Contains_int_int.W
  refine CallsV.mono (K := fun r w' => (∃ i : Int, r = .int .i64 i ∧ (0 ≤ i ↔ v ∈ l)) ∧ w' = w) ?_ ?_
  · refine slices_Index_int_int.calls okay ?_
    unfold slices_Index_int_int.W
    refine ⟨fun x u => ∃ j : Nat, x = (j : Int) ∧ j ≤ l.length ∧ u = w ∧ v ∉ l.take j, fun x _ => (l.length - x).toNat, ⟨0, rfl, Nat.zero_le _, rfl, by simp⟩, ?_⟩
    rintro _ u ⟨j, rfl, hj, rfl, hn⟩
    refine brd (fun hlt => ?_) (fun hge => ?_)
    · have hjl : j < l.length := by omega
      obtain ⟨ad, hA, c0⟩ := itemI h hjl
      refine ⟨ad, hA, ⟨by omega, by omega⟩, _, by rw [Int.toNat_natCast]; exact c0, brd (fun he => ⟨⟨_, rfl, fun _ => he ▸ List.getElem_mem hjl, fun _ => by omega⟩, rfl⟩) (fun hne => ?_)⟩
      rw [wi _ (by omega) (by omega)]
      refine ⟨⟨j + 1, by omega, by omega, rfl, ?_⟩, by dsimp only; omega⟩
      rw [List.take_add_one, List.getElem?_eq_getElem hjl]
      simp only [Option.toList, List.mem_append, List.mem_singleton, not_or]
      exact ⟨hn, hne⟩
    · obtain rfl : j = l.length := by omega
      rw [List.take_of_length_le (Nat.le_refl _)] at hn
      exact ⟨⟨_, rfl, fun h => by omega, fun h => absurd h hn⟩, rfl⟩
  · rintro _ _ ⟨⟨i, rfl, hi⟩, rfl⟩
    refine ⟨_, rfl, ?_, rfl⟩
    congr 1
    rw [decide_eq_decide]
    exact hi
section
variable {T Ω : Nat → Prop} {u : World} {s g : Nat} {q : Ab} {id : Int} {k : Option Key}
theorem cNew (h : Sto T u s q) (id : Int) : CallsV Tryz.prog 14 #[.pointer (some ⟨s, 0, none⟩), .int .i64 id] u fun r u' => Ext u u' ∧ ((id ∈ idsD q.D ∧ ∃ g, r = .tuple #[.pointer (some ⟨g, 0, none⟩), .int .i64 0] ∧ u.heap.size ≤ g ∧ ∀ Ω, Cur Ω u' g s id none) ∨ (id ∉ idsD q.D ∧ r = .tuple #[.pointer none, .int .i64 41])) := by
  refine cursor_New.calls okay ?_
  unfold cursor_New.W
  refine (sCheck h).mono ?_
  rintro _ u1 ⟨rfl, e1⟩
  refine ⟨_, rfl, brd (fun h => by cases h) fun _ => (sTrees (h.ext e1)).mono ?_⟩
  rintro _ u2 ⟨A, c, rfl, ho, e2, _⟩
  have e12 := e1.trans' e2
  refine ⟨_, _, _, rfl, (Index_spec (ho.imm KI_pos) (by rw [idsD_len]; have := h.inv.cnt; omega) id).same ⟨_, rfl, brnb (fun hn => ?_) fun hy => ?_⟩⟩
  · exact ⟨e12, .inr ⟨of_decide_eq_false hn, rfl⟩⟩
  · intro g u3 f3
    exact ⟨e12.trans' f3.ext, .inl ⟨of_decide_eq_true hy, g, rfl, Nat.le_trans e12.size f3.ge, fun Ω => ⟨none, 0, 0, false, f3.blk, rfl⟩⟩⟩
theorem cKey (h : Sto T u s q) (hc : Cur Ω u g s id k) : CallsV Tryz.prog 38 #[.pointer (some ⟨g, 0, none⟩)] u fun r u' => Ext u u' ∧ match atX (foD q.D) id k with
    | none => r = .slice none 0 0
    | some (key, _) => ∃ A c, r = .slice A key.length c ∧ OwnB u' A c key ∧ New u A := by
  refine cursor_Cursor_Key.calls okay ?_
  unfold cursor_Cursor_Key.W
  refine (cEntry h hc).mono ?_
  rintro _ u' ⟨KA, kn, kc, VA, vn, vc, ok, rfl, e, hx⟩
  refine ⟨_, _, _, _, _, _, _, rfl, ?_⟩
  cases k with
  | none => obtain ⟨_, _, rfl⟩ := hx; exact brnb (fun _ => ⟨e, rfl⟩) fun h => by cases h
  | some key =>
    obtain ⟨rfl, hkl, iK, hx⟩ := hx
    show bif !ok then _ else _
    have hm : ∀ x : Option Key, (gF (foD q.D) id).bind (getE key) = x → atX (foD q.D) id (some key) = x.map fun v => (key, v) := fun x hx => by rw [← hx]; rfl
    cases hX : (gF (foD q.D) id).bind (getE key) with
    | none =>
      rw [hX] at hx
      obtain ⟨_, _, rfl⟩ := hx
      exact brnb (fun _ => ⟨e, by rw [hm _ hX]; rfl⟩) fun h => by cases h
    | some v =>
      rw [hX] at hx
      obtain ⟨_, _, _, rfl⟩ := hx
      refine brnb (fun h => by cases h) fun _ => (bClone iK hkl).mono ?_
      rintro _ u2 ⟨A', c', rfl, hO, e2, hN⟩
      exact ⟨_, _, _, rfl, e.trans' e2, by rw [hm _ hX]; exact ⟨_, _, rfl, hO, hN.ext e⟩⟩
end
end Go.Proofs.YthfagbfllheneaaGreat
set_option linter.unusedVariables false
set_option linter.unusedSimpArgs false
namespace Go.Proofs.YthfagbfllheneaaGreat
open Go Go.Sx T4
abbrev OC (T C : Nat → Prop) : Nat → Prop := fun k => T k ∨ C k
section
variable {A : Ar} {D : List Tr} {id : Int} {g s : Nat} {k : Option Key}
theorem Cur.tch {T T' C : Nat → Prop} {u u' : World} (hc : Cur (OC T C) u g s id k) (c : Tch T u T' u') (hg : ¬ T g) : Cur (OC T' C) u' g s id k :=
  hc.fr c.fr hg (fun _ _ h => .inl h) fun k hk h => h.elim (fun h => .inl ((c.sub k h).resolve_right (by omega))) .inr
theorem Cur.other {Ω : Nat → Prop} {u u' : World} {g2 : Nat} (hc : Cur Ω u g s id k) (f : Fr (fun k => k = g2) u u') (hne : g ≠ g2) (hg : Ω g2) : Cur Ω u' g s id k :=
  hc.fr f hne (fun k _ e => by have e : k = g2 := e; exact e ▸ hg) fun _ _ h => h
theorem cInsert (hI : Inv A D) (id : Int) {key val : Key} (hk : key.length ≤ 1048576) (hv : val.length ≤ 1048576) : ∃ A' D' was e, PutRel A D id key val A' D' was e ∧
    ∀ {T C : Nat → Prop} {u : World} {s g : Nat} {k : Option Key} {ms : List (Ar × List Tr)}, Sto T u s ⟨A, D, ms⟩ → Cur (OC T C) u g s id k → ¬ T g → C g → (∀ k, C k → k < u.heap.size) → ∀ {Ω1 Ω2 : Nat → Prop} {KA VA : Option Addr}, Imm KB Ω1 u KA key → Imm KB Ω2 u VA val → (∀ k, T k → Ω1 k) → ∀ kc vc : Nat,
      CallsV Tryz.prog 16 #[.pointer (some ⟨g, 0, none⟩), .slice KA key.length kc, .slice VA val.length vc] u fun r u' => r = .tuple #[.bool was, .int .i64 e] ∧ ∃ T' v, Sto T' u' s ⟨A', D', ms⟩ ∧ Tch T u T' v ∧ Fr (fun k => k = g) v u' ∧ Cur (OC T' C) u' g s id (if e = 0 then some key else k) := by
  obtain ⟨A', D', was, e, rel, hP⟩ := aPut (A := A) (D := D) hI id hk hv
  refine ⟨A', D', was, e, rel, ?_⟩
  intro T C u s g k ms h hc hgT hgC hCl Ω1 Ω2 KA VA iK iV hTΩ kc vc
  refine cursor_Cursor_Insert.calls okay ?_
  unfold cursor_Cursor_Insert.W
  refine (cMade hc).same ⟨_, rfl, brnb (fun h => by cases h) fun _ => ?_⟩
  have ed : Ext u u.drew := Fr.drew NoB u
  have hc0 := hc
  obtain ⟨KA0, n, c, ok, hb, hk0⟩ := hc
  refine ⟨_, rfl, fun v => Ext u v, ed, _, fun v e => (hb.ext e).cell rfl, _, rfl, _, fun v e => (hb.ext e).cell rfl, (hP (h.ext ed) (iK.ext KB_pos ed) (iV.ext KB_pos ed) kc vc).mono ?_⟩
  rintro _ u1 ⟨rfl, T1, h1, c1⟩
  have c01 : Tch T u T1 u1 := (Tch.ext ed).trans c1
  refine ⟨_, _, rfl, brd (fun he => ?_) (fun hne => ⟨rfl, T1, u1, h1, c01, .refl _ _, by rw [if_neg hne]; exact hc0.tch c01 hgT⟩)⟩
  have iK1 : Imm KB NoB u1 KA key := iK.keep KB_pos (c01.fr.step (fun k _ h => hTΩ k h) fun _ _ h => h.elim)
  refine (bClone iK1 hk).mono ?_
  rintro _ u2 ⟨A2, c2, rfl, hO, e2, hN⟩
  obtain ⟨b1, hg1⟩ := c01.blk hb hgT
  refine ⟨_, _, _, rfl, (cPut (v0 := .bool true) (b1.ext e2) A2 none key.length c2 0 0 true).mono ?_⟩
  rintro _ u3 ⟨rfl, b3, f3⟩
  refine ⟨_, rfl, rfl, T1, u2, (h1.ext e2).frame f3 (fun k _ e ht => hg1 (by have e : k = g := e; exact e ▸ ht)), c01.trans (.ext e2), f3, ?_⟩
  rw [if_pos he]
  have s1 := c01.fr.size
  refine ⟨A2, _, c2, true, b3, rfl, rfl, hk, ?_⟩
  have i2 : Imm KB (OC T1 C) u2 A2 key := hO.imm fun k hk ho => by
    have := hN k hk
    rcases ho with ho | ho
    · have := h1.lt k ho; omega
    · have := hCl k ho; omega
  exact i2.keep KB_pos (f3.step (fun k _ e => .inr (by have e : k = g := e; exact e ▸ hgC)) fun _ _ h => h)
theorem cDelete {T C : Nat → Prop} {u : World} {ms : List (Ar × List Tr)} (h : Sto T u s ⟨A, D, ms⟩) (hc : Cur (OC T C) u g s id k) : CallsV Tryz.prog 11 #[.pointer (some ⟨g, 0, none⟩)] u fun r u' =>
    (id ∉ idsD D ∧ r = .int .i64 41 ∧ Ext u u') ∨ (id ∈ idsD D ∧ atX (foD D) id k = none ∧ r = .int .i64 70 ∧ Ext u u') ∨ (id ∈ idsD D ∧ ∃ key v A' D' was e T', k = some key ∧ atX (foD D) id k = some (key, v) ∧ DelRel A D id key A' D' was e ∧ r = .int .i64 e ∧ Sto T' u' s ⟨A', D', ms⟩ ∧ Tch T u T' u') := by
  refine cursor_Cursor_Delete.calls okay ?_
  unfold cursor_Cursor_Delete.W
  have ed : Ext u u.drew := Fr.drew NoB u
  refine (cMade hc).same ⟨_, rfl, brnb (fun h => by cases h) fun _ => ⟨fun x v => x = !(decide (id ∈ idsD D)) ∧ Ext u v, ?_, ?_⟩⟩
  · rintro x v ⟨rfl, e⟩
    have hv := h.ext e
    have hcv := hc.ext e
    refine br (fun hn => .inl ⟨by simpa using hn, rfl, e⟩) fun hy => ?_
    have hmem : id ∈ idsD D := by simpa using hy
    refine (cValid hv hcv).mono ?_
    rintro _ v2 ⟨rfl, e2⟩
    have e02 := e.trans' e2
    refine ⟨_, rfl, brnb (fun hx => .inr (.inl ⟨hmem, by simpa using hx, rfl, e02⟩)) fun hx => ?_⟩
    have hcv2 := hcv.ext e2
    have hv2 := hv.ext e2
    cases k with
    | none => cases hx
    | some key =>
      obtain ⟨KA, n, c, ok, hb, rfl, rfl, hkl, iK⟩ := hcv2
      obtain ⟨A', D', was, ee, rel, hP⟩ := aDel (A := A) (D := D) h.inv id key
      have ed2 : Ext v2 v2.drew := Fr.drew NoB v2
      refine ⟨_, rfl, fun z => Ext v2 z, ed2, _, fun z e => (hb.ext e).cell rfl, _, rfl, _, fun z e => (hb.ext e).cell rfl, _, rfl, _, _, _, fun z e => (hb.ext e).cell rfl, (hP (hv2.ext ed2) (iK.ext KB_pos ed2) c).mono ?_⟩
      rintro _ v3 ⟨rfl, T3, h3, c3⟩
      obtain ⟨⟨key', v'⟩, hat⟩ := Option.isSome_iff_exists.1 hx
      have hat : atX (foD D) id (some key) = some (key', v') := hat
      have hkk : key' = key := by
        replace hat : ((gF (foD D) id).bind (getE key)).map (fun v => (key, v)) = some (key', v') := hat
        cases hX : (gF (foD D) id).bind (getE key) with
        | none => rw [hX] at hat; cases hat
        | some z => rw [hX] at hat; cases hat; rfl
      subst hkk
      exact ⟨_, _, rfl, .inr (.inr ⟨hmem, key', v', A', D', was, ee, T3, rfl, hat, rel, rfl, h3, (Tch.ext (e02.trans' ed2)).trans c3⟩)⟩
  · obtain ⟨KA, n, c, ok, hb, hk0⟩ := hc
    refine ⟨_, rfl, fun v => Ext u v, ed, _, fun v e => (hb.ext e).cell rfl, _, rfl, _, fun v e => (hb.ext e).cell rfl, (sTrees (h.ext ed)).mono ?_⟩
    rintro _ v ⟨A1, c1, rfl, ho, e1, _⟩
    have e01 := ed.trans' e1
    refine ⟨_, _, _, rfl, e01, (Index_spec (ho.imm KI_pos) (by rw [idsD_len]; have := h.inv.cnt; show D.length ≤ _; have h9 : D.length ≤ 1000 := h.inv.cnt; omega) id).same ⟨_, rfl, rfl, e01⟩⟩
end
end Go.Proofs.YthfagbfllheneaaGreat
set_option linter.unusedVariables false
set_option maxRecDepth 100000
namespace Go.Proofs.YthfagbfllheneaaGreat
open Go Go.Sx
noncomputable def cursor_Cursor_Seek.W : Option Addr → Int → Option Addr → Nat → Nat → World → (Value → World → Prop) → Prop := fun (c : Option Addr) (how : Int) (key_A : Option Addr) (key_n key_c :
 Nat) (w : World) (K : Value → World → Prop) => ∀ (g : Nat) (w' : World), Fresh w g w' [Value.pointer c] 23 → ∀ (g_1 : Nat) (w'_1 : World), Fresh w' g_1 w'_1 [Value.slice key_A key_n key_c] 30 → ∃ (x :
 Option Addr), World.cell? w'_1 (Addr.mk g 0 none) = some (Value.pointer x) ∧ CallsV Tryz.prog 40 #[Value.pointer x] w'_1 fun (v : Value) (w' : World) => ∃ (x_1 : Bool), v = Value.bool x_1
 ∧ bif !x_1 then K (Value.bool false) w' else ∃ (x_2 : Option Nat) (w'_2 : World), RunsTo Tryz.prog (Instr.makeMap 94 none) w' (Value.map x_2) w'_2 ∧ ∃ (w' : World), RunsTo Tryz.prog
 (Instr.mapUpdate 94 (Value.map x_2) (Value.int IntKind.u8 (1 : Int)) (Value.func (Fn.func 41) #[] #[Value.pointer (some (Addr.mk g 0 none)), Value.pointer (some (Addr.mk g_1 0
 none))])) w'_2 () w' ∧ ∃ (w'_3 : World), RunsTo Tryz.prog (Instr.mapUpdate 94 (Value.map x_2) (Value.int IntKind.u8 (2 : Int)) (Value.func (Fn.func 43) #[] #[Value.pointer (some (Addr.mk
 g 0 none)), Value.pointer (some (Addr.mk g_1 0 none))])) w' () w'_3 ∧ ∃ (w' : World), RunsTo Tryz.prog (Instr.mapUpdate 94 (Value.map x_2) (Value.int IntKind.u8 (3 : Int))
 (Value.func (Fn.func 44) #[] #[Value.pointer (some (Addr.mk g 0 none)), Value.pointer (some (Addr.mk g_1 0 none))])) w'_3 () w' ∧ ∃ (w'_4 : World), RunsTo Tryz.prog
 (Instr.mapUpdate 94 (Value.map x_2) (Value.int IntKind.u8 (4 : Int)) (Value.func (Fn.func 46) #[] #[Value.pointer (some (Addr.mk g 0 none)), Value.pointer (some (Addr.mk g_1 0
 none))])) w' () w'_4 ∧ ∃ (x_3 : Value) (w' : World), RunsTo Tryz.prog (Instr.lookup 94 (Value.map x_2) (Value.int IntKind.u8 how) false) w'_4 x_3 w' ∧ pureS.match_2 (fun (x x_4 : Option
 Value) => Prop) (ev (Env.set (Env.set (Env.set (Env.set (Env.set (Env.set (Env.set (Env.set (Env.set (Env.set (Env.set (Env.set (Env.set (Env.set (Env.set (Env.set (Env.set (Env.set (argEnv 0
 [Value.pointer c, Value.int IntKind.u8 how, Value.slice key_A key_n key_c]) 3 (some (Value.pointer (some (Addr.mk g 0 none))))) 5 (some (Value.pointer (some (Addr.mk
 g_1 0 none))))) 6 (some (Value.bool false))) 9 (some (Value.pointer x))) 10 (some (Value.bool x_1))) 11 (some (Value.bool !x_1))) 12 (some (Value.map
 x_2))) 13 (some (Value.func (Fn.func 41) #[] #[Value.pointer (some (Addr.mk g 0 none)), Value.pointer (some (Addr.mk g_1 0 none))]))) 14 (some (Value.func
 (Fn.func 43) #[] #[Value.pointer (some (Addr.mk g 0 none)), Value.pointer (some (Addr.mk g_1 0 none))]))) 15 (some (Value.func (Fn.func 44) #[] #[Value.pointer
 (some (Addr.mk g 0 none)), Value.pointer (some (Addr.mk g_1 0 none))]))) 16 (some (Value.func (Fn.func 46) #[] #[Value.pointer (some (Addr.mk g 0
 none)), Value.pointer (some (Addr.mk g_1 0 none))]))) 17 (some (Value.map x_2))) 7 (some (Value.map x_2))) 18 (some (Value.map x_2))) 19 (some
 (Value.int IntKind.u8 how))) 20 (some x_3)) 8 (some x_3)) 21 (some x_3)) (Operand.tmp 21)) (ev (Env.set (Env.set (Env.set (Env.set (Env.set (Env.set (Env.set (Env.set (Env.set
 (Env.set (Env.set (Env.set (Env.set (Env.set (Env.set (Env.set (Env.set (Env.set (argEnv 0 [Value.pointer c, Value.int IntKind.u8 how, Value.slice key_A key_n key_c]) 3 (some (Value.pointer
 (some (Addr.mk g 0 none))))) 5 (some (Value.pointer (some (Addr.mk g_1 0 none))))) 6 (some (Value.bool false))) 9 (some (Value.pointer x))) 10
 (some (Value.bool x_1))) 11 (some (Value.bool !x_1))) 12 (some (Value.map x_2))) 13 (some (Value.func (Fn.func 41) #[] #[Value.pointer (some (Addr.mk g 0
 none)), Value.pointer (some (Addr.mk g_1 0 none))]))) 14 (some (Value.func (Fn.func 43) #[] #[Value.pointer (some (Addr.mk g 0 none)), Value.pointer
 (some (Addr.mk g_1 0 none))]))) 15 (some (Value.func (Fn.func 44) #[] #[Value.pointer (some (Addr.mk g 0 none)), Value.pointer (some (Addr.mk g_1 0
 none))]))) 16 (some (Value.func (Fn.func 46) #[] #[Value.pointer (some (Addr.mk g 0 none)), Value.pointer (some (Addr.mk g_1 0 none))]))) 17 (some
 (Value.map x_2))) 7 (some (Value.map x_2))) 18 (some (Value.map x_2))) 19 (some (Value.int IntKind.u8 how))) 20 (some x_3)) 8 (some x_3)) 21 (some x_3))
 (Operand.const Value.nilFunc)) (fun (a b : Array Value) => aggS Tryz.prog BinOp.neq 93 a b fun (v : Value) => putS 32 (Array.toList #[Oper.mk (some 21) (Op.move (Operand.tmp 8)) 93
 "cursor.go:66" #[] none, Oper.mk (some 22) (Op.binOp BinOp.neq 93 (Operand.tmp 21) (Operand.const Value.nilFunc) 93) 4 "cursor.go:66" #[Edge.mk 0 Ground.data] none]) 1 (Oper.mk
 (some 22) (Op.binOp BinOp.neq 93 (Operand.tmp 21) (Operand.const Value.nilFunc) 93) 4 "cursor.go:66" #[Edge.mk 0 Ground.data] none) v (Env.set (Env.set (Env.set (Env.set (Env.set (Env.set
 (Env.set (Env.set (Env.set (Env.set (Env.set (Env.set (Env.set (Env.set (Env.set (Env.set (Env.set (Env.set (argEnv 0 [Value.pointer c, Value.int IntKind.u8 how, Value.slice key_A key_n key_c]) 3
 (some (Value.pointer (some (Addr.mk g 0 none))))) 5 (some (Value.pointer (some (Addr.mk g_1 0 none))))) 6 (some (Value.bool false))) 9 (some
 (Value.pointer x))) 10 (some (Value.bool x_1))) 11 (some (Value.bool !x_1))) 12 (some (Value.map x_2))) 13 (some (Value.func (Fn.func 41) #[] #[Value.pointer (some
 (Addr.mk g 0 none)), Value.pointer (some (Addr.mk g_1 0 none))]))) 14 (some (Value.func (Fn.func 43) #[] #[Value.pointer (some (Addr.mk g 0 none)),
 Value.pointer (some (Addr.mk g_1 0 none))]))) 15 (some (Value.func (Fn.func 44) #[] #[Value.pointer (some (Addr.mk g 0 none)), Value.pointer (some (Addr.mk g_1
 0 none))]))) 16 (some (Value.func (Fn.func 46) #[] #[Value.pointer (some (Addr.mk g 0 none)), Value.pointer (some (Addr.mk g_1 0 none))]))) 17 (some
 (Value.map x_2))) 7 (some (Value.map x_2))) 18 (some (Value.map x_2))) 19 (some (Value.int IntKind.u8 how))) 20 (some x_3)) 8 (some x_3)) 21 (some x_3)) fun
 (ρ' : Env) => regW (nmd (Ann.named (Ann.named Ann.auto))) Tryz.prog 32 (Array.toList #[Oper.mk (some 21) (Op.move (Operand.tmp 8)) 93 "cursor.go:66" #[] none, Oper.mk (some 22)
 (Op.binOp BinOp.neq 93 (Operand.tmp 21) (Operand.const Value.nilFunc) 93) 4 "cursor.go:66" #[Edge.mk 0 Ground.data] none]) 2 [] (nxt (nxt (fnK Tryz.prog (Array.toList (Array.mk [ResultVar.tmp
 6])) K) fun (ρ : Env) (w : World) => cWf (nmd (Ann.named (Ann.named Ann.auto))) Tryz.prog 32 none Ann.auto (Code.seq (Code.region 7 #[Oper.mk (some 30) (Op.load 23 (Operand.tmp 3)) 23
 "cursor.go:69" #[] none, Oper.mk (some 31) (Op.call (Call.mk (Callee.value (Operand.func 47)) #[Operand.tmp 30, Operand.const (Value.slice none 0 0), Operand.const (Value.slice
 none 0 0), Operand.const (Value.bool false)] #[23, 30, 30, 4])) 4 "cursor.go:69" #[Edge.mk 0 Ground.data] none, Oper.mk (some 6) (Op.assign (Operand.tmp 31)) 4 "cursor.go:69"
 #[Edge.mk 1 Ground.data, Edge.mk 1 Ground.chain, Edge.mk 0 Ground.phase, Edge.mk 1 Ground.phase] none] false) Code.ret) (fnK Tryz.prog (Array.toList (Array.mk [ResultVar.tmp 6])) K) ρ w)
 (fun (ρ : Env) (w : World) => cWf (nmd (Ann.named (Ann.named Ann.auto))) Tryz.prog 32 none Ann.auto (Code.cond (Operand.tmp 22) (Code.seq (Code.region 6 #[Oper.mk (some 23) (Op.load 23
 (Operand.tmp 3)) 23 "cursor.go:67" #[] none, Oper.mk (some 24) (Op.move (Operand.tmp 8)) 93 "cursor.go:67" #[] none, Oper.mk (some 25) (Op.call (Call.mk (Callee.value
 (Operand.tmp 24)) #[] #[])) 89 "cursor.go:67" #[Edge.mk 1 Ground.data] none, Oper.mk (some 26) (Op.extract (Operand.tmp 25) 0) 30 "cursor.go:67" #[Edge.mk 2 Ground.data] none,
 Oper.mk (some 27) (Op.extract (Operand.tmp 25) 1) 30 "cursor.go:67" #[Edge.mk 2 Ground.data] none, Oper.mk (some 28) (Op.extract (Operand.tmp 25) 2) 4 "cursor.go:67" #[Edge.mk 2
 Ground.data] none, Oper.mk (some 29) (Op.call (Call.mk (Callee.value (Operand.func 47)) #[Operand.tmp 23, Operand.tmp 26, Operand.tmp 27, Operand.tmp 28] #[23, 30, 30, 4])) 4
 "cursor.go:67" #[Edge.mk 0 Ground.data, Edge.mk 3 Ground.data, Edge.mk 4 Ground.data, Edge.mk 5 Ground.data, Edge.mk 2 Ground.chain] none, Oper.mk (some 6) (Op.assign (Operand.tmp 29)) 4
 "cursor.go:67" #[Edge.mk 6 Ground.data, Edge.mk 6 Ground.chain, Edge.mk 0 Ground.phase, Edge.mk 1 Ground.phase, Edge.mk 2 Ground.phase, Edge.mk 3 Ground.phase, Edge.mk 4 Ground.phase, Edge.mk 5
 Ground.phase, Edge.mk 6 Ground.phase] none] true) Code.ret) Code.skip) (nxt (fnK Tryz.prog (Array.toList (Array.mk [ResultVar.tmp 6])) K) fun (ρ : Env) (w : World) => cWf (nmd (Ann.named
 (Ann.named Ann.auto))) Tryz.prog 32 none Ann.auto (Code.seq (Code.region 7 #[Oper.mk (some 30) (Op.load 23 (Operand.tmp 3)) 23 "cursor.go:69" #[] none, Oper.mk (some 31)
 (Op.call (Call.mk (Callee.value (Operand.func 47)) #[Operand.tmp 30, Operand.const (Value.slice none 0 0), Operand.const (Value.slice none 0 0), Operand.const (Value.bool false)]
 #[23, 30, 30, 4])) 4 "cursor.go:69" #[Edge.mk 0 Ground.data] none, Oper.mk (some 6) (Op.assign (Operand.tmp 31)) 4 "cursor.go:69" #[Edge.mk 1 Ground.data, Edge.mk 1 Ground.chain, Edge.mk
 0 Ground.phase, Edge.mk 1 Ground.phase] none] false) Code.ret) (fnK Tryz.prog (Array.toList (Array.mk [ResultVar.tmp 6])) K) ρ w) ρ w) Exit.normal) ρ' w') (fun (a b : Value) => bif isPtrT
 (und Tryz.prog 93) && !(constO (Operand.tmp 21) || constO (Operand.const Value.nilFunc)) then ptrS Tryz.prog BinOp.neq 93 a b fun (v : Value) => putS 32 (Array.toList #[Oper.mk (some 21)
 (Op.move (Operand.tmp 8)) 93 "cursor.go:66" #[] none, Oper.mk (some 22) (Op.binOp BinOp.neq 93 (Operand.tmp 21) (Operand.const Value.nilFunc) 93) 4 "cursor.go:66" #[Edge.mk 0 Ground.data]
 none]) 1 (Oper.mk (some 22) (Op.binOp BinOp.neq 93 (Operand.tmp 21) (Operand.const Value.nilFunc) 93) 4 "cursor.go:66" #[Edge.mk 0 Ground.data] none) v (Env.set (Env.set (Env.set
 (Env.set (Env.set (Env.set (Env.set (Env.set (Env.set (Env.set (Env.set (Env.set (Env.set (Env.set (Env.set (Env.set (Env.set (Env.set (argEnv 0 [Value.pointer c, Value.int IntKind.u8 how, Value.slice
 key_A key_n key_c]) 3 (some (Value.pointer (some (Addr.mk g 0 none))))) 5 (some (Value.pointer (some (Addr.mk g_1 0 none))))) 6 (some (Value.bool
 false))) 9 (some (Value.pointer x))) 10 (some (Value.bool x_1))) 11 (some (Value.bool !x_1))) 12 (some (Value.map x_2))) 13 (some (Value.func (Fn.func 41) #[]
 #[Value.pointer (some (Addr.mk g 0 none)), Value.pointer (some (Addr.mk g_1 0 none))]))) 14 (some (Value.func (Fn.func 43) #[] #[Value.pointer (some (Addr.mk g
 0 none)), Value.pointer (some (Addr.mk g_1 0 none))]))) 15 (some (Value.func (Fn.func 44) #[] #[Value.pointer (some (Addr.mk g 0 none)), Value.pointer
 (some (Addr.mk g_1 0 none))]))) 16 (some (Value.func (Fn.func 46) #[] #[Value.pointer (some (Addr.mk g 0 none)), Value.pointer (some (Addr.mk g_1 0
 none))]))) 17 (some (Value.map x_2))) 7 (some (Value.map x_2))) 18 (some (Value.map x_2))) 19 (some (Value.int IntKind.u8 how))) 20 (some x_3)) 8 (some
 x_3)) 21 (some x_3)) fun (ρ' : Env) => regW (nmd (Ann.named (Ann.named Ann.auto))) Tryz.prog 32 (Array.toList #[Oper.mk (some 21) (Op.move (Operand.tmp 8)) 93 "cursor.go:66" #[]
 none, Oper.mk (some 22) (Op.binOp BinOp.neq 93 (Operand.tmp 21) (Operand.const Value.nilFunc) 93) 4 "cursor.go:66" #[Edge.mk 0 Ground.data] none]) 2 [] (nxt (nxt (fnK Tryz.prog
 (Array.toList (Array.mk [ResultVar.tmp 6])) K) fun (ρ : Env) (w : World) => cWf (nmd (Ann.named (Ann.named Ann.auto))) Tryz.prog 32 none Ann.auto (Code.seq (Code.region 7 #[Oper.mk (some
 30) (Op.load 23 (Operand.tmp 3)) 23 "cursor.go:69" #[] none, Oper.mk (some 31) (Op.call (Call.mk (Callee.value (Operand.func 47)) #[Operand.tmp 30, Operand.const (Value.slice none
 0 0), Operand.const (Value.slice none 0 0), Operand.const (Value.bool false)] #[23, 30, 30, 4])) 4 "cursor.go:69" #[Edge.mk 0 Ground.data] none, Oper.mk (some 6) (Op.assign
 (Operand.tmp 31)) 4 "cursor.go:69" #[Edge.mk 1 Ground.data, Edge.mk 1 Ground.chain, Edge.mk 0 Ground.phase, Edge.mk 1 Ground.phase] none] false) Code.ret) (fnK Tryz.prog (Array.toList
 (Array.mk [ResultVar.tmp 6])) K) ρ w) (fun (ρ : Env) (w : World) => cWf (nmd (Ann.named (Ann.named Ann.auto))) Tryz.prog 32 none Ann.auto (Code.cond (Operand.tmp 22) (Code.seq (Code.region 6
 #[Oper.mk (some 23) (Op.load 23 (Operand.tmp 3)) 23 "cursor.go:67" #[] none, Oper.mk (some 24) (Op.move (Operand.tmp 8)) 93 "cursor.go:67" #[] none, Oper.mk (some 25)
 (Op.call (Call.mk (Callee.value (Operand.tmp 24)) #[] #[])) 89 "cursor.go:67" #[Edge.mk 1 Ground.data] none, Oper.mk (some 26) (Op.extract (Operand.tmp 25) 0) 30 "cursor.go:67" #[Edge.mk
 2 Ground.data] none, Oper.mk (some 27) (Op.extract (Operand.tmp 25) 1) 30 "cursor.go:67" #[Edge.mk 2 Ground.data] none, Oper.mk (some 28) (Op.extract (Operand.tmp 25) 2) 4
 "cursor.go:67" #[Edge.mk 2 Ground.data] none, Oper.mk (some 29) (Op.call (Call.mk (Callee.value (Operand.func 47)) #[Operand.tmp 23, Operand.tmp 26, Operand.tmp 27, Operand.tmp 28] #[23,
 30, 30, 4])) 4 "cursor.go:67" #[Edge.mk 0 Ground.data, Edge.mk 3 Ground.data, Edge.mk 4 Ground.data, Edge.mk 5 Ground.data, Edge.mk 2 Ground.chain] none, Oper.mk (some 6) (Op.assign
 (Operand.tmp 29)) 4 "cursor.go:67" #[Edge.mk 6 Ground.data, Edge.mk 6 Ground.chain, Edge.mk 0 Ground.phase, Edge.mk 1 Ground.phase, Edge.mk 2 Ground.phase, Edge.mk 3 Ground.phase, Edge.mk 4
 Ground.phase, Edge.mk 5 Ground.phase, Edge.mk 6 Ground.phase] none] true) Code.ret) Code.skip) (nxt (fnK Tryz.prog (Array.toList (Array.mk [ResultVar.tmp 6])) K) fun (ρ : Env) (w : World)
 => cWf (nmd (Ann.named (Ann.named Ann.auto))) Tryz.prog 32 none Ann.auto (Code.seq (Code.region 7 #[Oper.mk (some 30) (Op.load 23 (Operand.tmp 3)) 23 "cursor.go:69" #[] none,
 Oper.mk (some 31) (Op.call (Call.mk (Callee.value (Operand.func 47)) #[Operand.tmp 30, Operand.const (Value.slice none 0 0), Operand.const (Value.slice none 0 0), Operand.const
 (Value.bool false)] #[23, 30, 30, 4])) 4 "cursor.go:69" #[Edge.mk 0 Ground.data] none, Oper.mk (some 6) (Op.assign (Operand.tmp 31)) 4 "cursor.go:69" #[Edge.mk 1 Ground.data, Edge.mk
 1 Ground.chain, Edge.mk 0 Ground.phase, Edge.mk 1 Ground.phase] none] false) Code.ret) (fnK Tryz.prog (Array.toList (Array.mk [ResultVar.tmp 6])) K) ρ w) ρ w) Exit.normal) ρ' w' else binS
 Tryz.prog BinOp.neq 93 a b fun (v : Value) => putS 32 (Array.toList #[Oper.mk (some 21) (Op.move (Operand.tmp 8)) 93 "cursor.go:66" #[] none, Oper.mk (some 22) (Op.binOp BinOp.neq
 93 (Operand.tmp 21) (Operand.const Value.nilFunc) 93) 4 "cursor.go:66" #[Edge.mk 0 Ground.data] none]) 1 (Oper.mk (some 22) (Op.binOp BinOp.neq 93 (Operand.tmp 21) (Operand.const
 Value.nilFunc) 93) 4 "cursor.go:66" #[Edge.mk 0 Ground.data] none) v (Env.set (Env.set (Env.set (Env.set (Env.set (Env.set (Env.set (Env.set (Env.set (Env.set (Env.set (Env.set (Env.set (Env.set
 (Env.set (Env.set (Env.set (Env.set (argEnv 0 [Value.pointer c, Value.int IntKind.u8 how, Value.slice key_A key_n key_c]) 3 (some (Value.pointer (some (Addr.mk g 0 none))))) 5
 (some (Value.pointer (some (Addr.mk g_1 0 none))))) 6 (some (Value.bool false))) 9 (some (Value.pointer x))) 10 (some (Value.bool x_1))) 11 (some
 (Value.bool !x_1))) 12 (some (Value.map x_2))) 13 (some (Value.func (Fn.func 41) #[] #[Value.pointer (some (Addr.mk g 0 none)), Value.pointer (some (Addr.mk g_1 0
 none))]))) 14 (some (Value.func (Fn.func 43) #[] #[Value.pointer (some (Addr.mk g 0 none)), Value.pointer (some (Addr.mk g_1 0 none))]))) 15 (some
 (Value.func (Fn.func 44) #[] #[Value.pointer (some (Addr.mk g 0 none)), Value.pointer (some (Addr.mk g_1 0 none))]))) 16 (some (Value.func (Fn.func 46) #[]
 #[Value.pointer (some (Addr.mk g 0 none)), Value.pointer (some (Addr.mk g_1 0 none))]))) 17 (some (Value.map x_2))) 7 (some (Value.map x_2))) 18 (some
 (Value.map x_2))) 19 (some (Value.int IntKind.u8 how))) 20 (some x_3)) 8 (some x_3)) 21 (some x_3)) fun (ρ' : Env) => regW (nmd (Ann.named (Ann.named Ann.auto))) Tryz.prog
 32 (Array.toList #[Oper.mk (some 21) (Op.move (Operand.tmp 8)) 93 "cursor.go:66" #[] none, Oper.mk (some 22) (Op.binOp BinOp.neq 93 (Operand.tmp 21) (Operand.const Value.nilFunc)
 93) 4 "cursor.go:66" #[Edge.mk 0 Ground.data] none]) 2 [] (nxt (nxt (fnK Tryz.prog (Array.toList (Array.mk [ResultVar.tmp 6])) K) fun (ρ : Env) (w : World) => cWf (nmd (Ann.named (Ann.named
 Ann.auto))) Tryz.prog 32 none Ann.auto (Code.seq (Code.region 7 #[Oper.mk (some 30) (Op.load 23 (Operand.tmp 3)) 23 "cursor.go:69" #[] none, Oper.mk (some 31) (Op.call
 (Call.mk (Callee.value (Operand.func 47)) #[Operand.tmp 30, Operand.const (Value.slice none 0 0), Operand.const (Value.slice none 0 0), Operand.const (Value.bool false)] #[23, 30,
 30, 4])) 4 "cursor.go:69" #[Edge.mk 0 Ground.data] none, Oper.mk (some 6) (Op.assign (Operand.tmp 31)) 4 "cursor.go:69" #[Edge.mk 1 Ground.data, Edge.mk 1 Ground.chain, Edge.mk 0
 Ground.phase, Edge.mk 1 Ground.phase] none] false) Code.ret) (fnK Tryz.prog (Array.toList (Array.mk [ResultVar.tmp 6])) K) ρ w) (fun (ρ : Env) (w : World) => cWf (nmd (Ann.named (Ann.named
 Ann.auto))) Tryz.prog 32 none Ann.auto (Code.cond (Operand.tmp 22) (Code.seq (Code.region 6 #[Oper.mk (some 23) (Op.load 23 (Operand.tmp 3)) 23 "cursor.go:67" #[] none, Oper.mk
 (some 24) (Op.move (Operand.tmp 8)) 93 "cursor.go:67" #[] none, Oper.mk (some 25) (Op.call (Call.mk (Callee.value (Operand.tmp 24)) #[] #[])) 89 "cursor.go:67" #[Edge.mk 1
 Ground.data] none, Oper.mk (some 26) (Op.extract (Operand.tmp 25) 0) 30 "cursor.go:67" #[Edge.mk 2 Ground.data] none, Oper.mk (some 27) (Op.extract (Operand.tmp 25) 1) 30
 "cursor.go:67" #[Edge.mk 2 Ground.data] none, Oper.mk (some 28) (Op.extract (Operand.tmp 25) 2) 4 "cursor.go:67" #[Edge.mk 2 Ground.data] none, Oper.mk (some 29) (Op.call
 (Call.mk (Callee.value (Operand.func 47)) #[Operand.tmp 23, Operand.tmp 26, Operand.tmp 27, Operand.tmp 28] #[23, 30, 30, 4])) 4 "cursor.go:67" #[Edge.mk 0 Ground.data, Edge.mk 3 Ground.data, Edge.mk 4
 Ground.data, Edge.mk 5 Ground.data, Edge.mk 2 Ground.chain] none, Oper.mk (some 6) (Op.assign (Operand.tmp 29)) 4 "cursor.go:67" #[Edge.mk 6 Ground.data, Edge.mk 6 Ground.chain, Edge.mk 0
 Ground.phase, Edge.mk 1 Ground.phase, Edge.mk 2 Ground.phase, Edge.mk 3 Ground.phase, Edge.mk 4 Ground.phase, Edge.mk 5 Ground.phase, Edge.mk 6 Ground.phase] none] true) Code.ret)
 Code.skip) (nxt (fnK Tryz.prog (Array.toList (Array.mk [ResultVar.tmp 6])) K) fun (ρ : Env) (w : World) => cWf (nmd (Ann.named (Ann.named Ann.auto))) Tryz.prog 32 none Ann.auto (Code.seq
 (Code.region 7 #[Oper.mk (some 30) (Op.load 23 (Operand.tmp 3)) 23 "cursor.go:69" #[] none, Oper.mk (some 31) (Op.call (Call.mk (Callee.value (Operand.func 47)) #[Operand.tmp 30,
 Operand.const (Value.slice none 0 0), Operand.const (Value.slice none 0 0), Operand.const (Value.bool false)] #[23, 30, 30, 4])) 4 "cursor.go:69" #[Edge.mk 0 Ground.data]
 none, Oper.mk (some 6) (Op.assign (Operand.tmp 31)) 4 "cursor.go:69" #[Edge.mk 1 Ground.data, Edge.mk 1 Ground.chain, Edge.mk 0 Ground.phase, Edge.mk 1 Ground.phase] none]
 false) Code.ret) (fnK Tryz.prog (Array.toList (Array.mk [ResultVar.tmp 6])) K) ρ w) ρ w) Exit.normal) ρ' w') fun (x x_4 : Option Value) => False
theorem cursor_Cursor_Seek.calls (ok : Okay Tryz.prog) {c : Option Addr} {how : Int} {key_A : Option Addr} {key_n : Nat} {key_c : Nat} {w : World} {K : Value → World → Prop} (h : cursor_Cursor_Seek.W c how key_A key_n key_c w K) : CallsV Tryz.prog 6 #[.pointer c, .int .u8 how, .slice key_A key_n key_c] w K :=
  fnW_calls ok Tryz.func6 (an := (.named (.named .auto))) (args := [.pointer c, .int .u8 how, .slice key_A key_n key_c]) (Eq.mp (by kernel_rfl) h)
end Go.Proofs.YthfagbfllheneaaGreat
set_option linter.unusedVariables false
set_option linter.unusedSimpArgs false
namespace Go.Proofs.YthfagbfllheneaaGreat
open Go Go.Sx T4
def seekX (F : List (Int × Es)) (id : Int) (how : Int) (key : Key) : Option (Key × Key) :=
  if how = 1 then (gF F id).bind (aftE key true) else if how = 2 then (gF F id).bind (aftE key false) else if how = 3 then (gF F id).bind (befE key true) else if how = 4 then (gF F id).bind (befE key false) else none
abbrev fU : Int → Value := fun a => .int .u8 a
theorem keyU : KeyF Tryz.prog 26 (.int .u8) fU := keyInt (by kernel_rfl)
theorem zeroF (w : World) : (zeroValue 93).run Tryz.prog w = .ok .nilFunc w := by
  have h : inf Tryz.prog 93 = some Tryz.t93 := by kernel_rfl
  simp only [zeroValue, Sem.run_bind, run_inf h, Result.andThen_ok]
  rfl
section
variable {T Ω Ω1 : Nat → Prop} {u : World} {s g gc gk : Nat} {q : Ab} {id : Int} {key : Key} {KA : Option Addr} {kc : Nat} {v2 v3 : Value}
theorem seek1 (h : Sto T u s q) (hb : Blk u g [.pointer (some ⟨s, 0, none⟩), .int .i64 id, v2, v3]) (b1 : Blk u gc [.pointer (some ⟨g, 0, none⟩)]) (b2 : Blk u gk [.slice KA key.length kc]) (iK : Imm KB Ω1 u KA key) : CallsV Tryz.prog 41 #[.pointer (some ⟨gc, 0, none⟩), .pointer (some ⟨gk, 0, none⟩)] u fun r v => Told u ((gF (foD q.D) id).bind (aftE key true)) r v ∧ Ext u v := by
  refine cursor_Cursor_Seek_1.calls okay ?_
  unfold cursor_Cursor_Seek_1.W
  have ed : Ext u u.drew := Fr.drew NoB u
  refine ⟨fun z => Ext u z, ed, _, fun z e => (b1.ext e).cell0 rfl, _, rfl, _, fun z e => (hb.ext e).cell rfl, _, fun z e => (b1.ext e).cell0 rfl, _, rfl, _, fun z e => (hb.ext e).cell rfl, _, _, _, fun z e => (b2.ext e).cell0 rfl, (sAfter (h.ext ed) id (iK.ext KB_pos ed) kc true).mono ?_⟩
  rintro r v ⟨ht, e⟩
  obtain ⟨A1, n1, c1, B1, m1, d1, f1, rfl⟩ := ht.form
  exact ⟨_, _, _, _, _, _, _, rfl, ed.trans' e, ht.from ed, ed.trans' e⟩
theorem seek2 (h : Sto T u s q) (hb : Blk u g [.pointer (some ⟨s, 0, none⟩), .int .i64 id, v2, v3]) (b1 : Blk u gc [.pointer (some ⟨g, 0, none⟩)]) (b2 : Blk u gk [.slice KA key.length kc]) (iK : Imm KB Ω1 u KA key) : CallsV Tryz.prog 43 #[.pointer (some ⟨gc, 0, none⟩), .pointer (some ⟨gk, 0, none⟩)] u fun r v => Told u ((gF (foD q.D) id).bind (aftE key false)) r v ∧ Ext u v := by
  refine cursor_Cursor_Seek_2.calls okay ?_
  unfold cursor_Cursor_Seek_2.W
  have ed : Ext u u.drew := Fr.drew NoB u
  refine ⟨fun z => Ext u z, ed, _, fun z e => (b1.ext e).cell0 rfl, _, rfl, _, fun z e => (hb.ext e).cell rfl, _, fun z e => (b1.ext e).cell0 rfl, _, rfl, _, fun z e => (hb.ext e).cell rfl, _, _, _, fun z e => (b2.ext e).cell0 rfl, (sAfter (h.ext ed) id (iK.ext KB_pos ed) kc false).mono ?_⟩
  rintro r v ⟨ht, e⟩
  obtain ⟨A1, n1, c1, B1, m1, d1, f1, rfl⟩ := ht.form
  exact ⟨_, _, _, _, _, _, _, rfl, ed.trans' e, ht.from ed, ed.trans' e⟩
theorem seek3 (h : Sto T u s q) (hb : Blk u g [.pointer (some ⟨s, 0, none⟩), .int .i64 id, v2, v3]) (b1 : Blk u gc [.pointer (some ⟨g, 0, none⟩)]) (b2 : Blk u gk [.slice KA key.length kc]) (iK : Imm KB Ω1 u KA key) : CallsV Tryz.prog 44 #[.pointer (some ⟨gc, 0, none⟩), .pointer (some ⟨gk, 0, none⟩)] u fun r v => Told u ((gF (foD q.D) id).bind (befE key true)) r v ∧ Ext u v := by
  refine cursor_Cursor_Seek_3.calls okay ?_
  unfold cursor_Cursor_Seek_3.W
  have ed : Ext u u.drew := Fr.drew NoB u
  refine ⟨fun z => Ext u z, ed, _, fun z e => (b1.ext e).cell0 rfl, _, rfl, _, fun z e => (hb.ext e).cell rfl, _, fun z e => (b1.ext e).cell0 rfl, _, rfl, _, fun z e => (hb.ext e).cell rfl, _, _, _, fun z e => (b2.ext e).cell0 rfl, (sBefore (h.ext ed) id (iK.ext KB_pos ed) kc true).mono ?_⟩
  rintro r v ⟨ht, e⟩
  obtain ⟨A1, n1, c1, B1, m1, d1, f1, rfl⟩ := ht.form
  exact ⟨_, _, _, _, _, _, _, rfl, ed.trans' e, ht.from ed, ed.trans' e⟩
theorem seek4 (h : Sto T u s q) (hb : Blk u g [.pointer (some ⟨s, 0, none⟩), .int .i64 id, v2, v3]) (b1 : Blk u gc [.pointer (some ⟨g, 0, none⟩)]) (b2 : Blk u gk [.slice KA key.length kc]) (iK : Imm KB Ω1 u KA key) : CallsV Tryz.prog 46 #[.pointer (some ⟨gc, 0, none⟩), .pointer (some ⟨gk, 0, none⟩)] u fun r v => Told u ((gF (foD q.D) id).bind (befE key false)) r v ∧ Ext u v := by
  refine cursor_Cursor_Seek_4.calls okay ?_
  unfold cursor_Cursor_Seek_4.W
  have ed : Ext u u.drew := Fr.drew NoB u
  refine ⟨fun z => Ext u z, ed, _, fun z e => (b1.ext e).cell0 rfl, _, rfl, _, fun z e => (hb.ext e).cell rfl, _, fun z e => (b1.ext e).cell0 rfl, _, rfl, _, fun z e => (hb.ext e).cell rfl, _, _, _, fun z e => (b2.ext e).cell0 rfl, (sBefore (h.ext ed) id (iK.ext KB_pos ed) kc false).mono ?_⟩
  rintro r v ⟨ht, e⟩
  obtain ⟨A1, n1, c1, B1, m1, d1, f1, rfl⟩ := ht.form
  exact ⟨_, _, _, _, _, _, _, rfl, ed.trans' e, ht.from ed, ed.trans' e⟩
def seekNest (fid gc gk : Nat) (w : World) (K : Value → World → Prop) : Prop :=
  ∃ S : World → Prop, S w.drew ∧ ∃ x, (∀ u, S u → u.cell? ⟨gc, 0, none⟩ = some (.pointer x)) ∧ ∃ (f : Nat) (first captured : Array Value), Value.func (.func fid) #[] #[.pointer (some ⟨gc, 0, none⟩), .pointer (some ⟨gk, 0, none⟩)] = .func (.func f) first captured ∧ bodied Tryz.prog f = true ∧
    CallsV Tryz.prog f (List.toArray (first.toList ++ ([] ++ captured.toList))) w.drew fun r w' => ∃ x3 x4 x5 x6 x7 x8 x9, r = .tuple #[.slice x3 x4 x5, .slice x6 x7 x8, .bool x9] ∧ S w' ∧ CallsV Tryz.prog 47 #[.pointer x, .slice x3 x4 x5, .slice x6 x7 x8, .bool x9] w' fun v w' => ∃ x, v = .bool x ∧ K (.bool x) w'
def seekPost (Ω : Nat → Prop) (u : World) (g s : Nat) (id : Int) (x : Option (Key × Key)) : Value → World → Prop := fun r u' => r = .bool x.isSome ∧ Cur Ω u' g s id (x.map fun p => p.1) ∧ Fr (fun k => k = g) u u'
theorem seekNest_of {w : World} {x : Option (Key × Key)} {v2 v3 : Value} (e : Ext u w) (hb : Blk w g [.pointer (some ⟨s, 0, none⟩), .int .i64 id, v2, v3]) (b1 : Blk w gc [.pointer (some ⟨g, 0, none⟩)]) (hne : gc ≠ g) (hΩ : ∀ k, Ω k → k < u.heap.size) (hg : Ω g) {fid : Nat} (hbo : bodied Tryz.prog fid = true)
    (hcall : CallsV Tryz.prog fid #[.pointer (some ⟨gc, 0, none⟩), .pointer (some ⟨gk, 0, none⟩)] w.drew fun r v => Told w.drew x r v ∧ Ext w.drew v) : seekNest fid gc gk w (seekPost Ω u g s id x) := by
  have ed : Ext w w.drew := Fr.drew NoB w
  refine ⟨fun z => Blk z gc [.pointer (some ⟨g, 0, none⟩)], b1.ext ed, _, fun z hz => hz.cell0 rfl, fid, _, _, rfl, hbo, hcall.mono ?_⟩
  rintro r v ⟨ht, e1⟩
  have ewv := ed.trans' e1
  have ev := e.trans' ewv
  obtain ⟨KA', kn, kc, VA, vn, vc, ok', rfl, hti⟩ := ht.ti (Ω := Ω) (fun k hk => by have := hΩ k hk; have := e.size; have := ed.size; omega)
  refine ⟨_, _, _, _, _, _, _, rfl, b1.ext ewv, (cPut (v0 := .bool true) (hb.ext ewv) KA' VA kn kc vn vc ok').mono ?_⟩
  rintro _ w' ⟨rfl, hb', f⟩
  obtain ⟨h1, h2, h3⟩ := move hΩ hg (toldLen ht) hti ev hb' f
  exact ⟨_, rfl, by rw [h1], h2, h3⟩
set_option maxRecDepth 100000 in
set_option maxHeartbeats 1000000 in
theorem cSeek {k : Option Key} (h : Sto T u s q) (hc : Cur Ω u g s id k) (hΩ : ∀ k, Ω k → k < u.heap.size) (hg : Ω g) (iK : Imm KB Ω1 u KA key) (kc : Nat) (how : Int) : CallsV Tryz.prog 6 #[.pointer (some ⟨g, 0, none⟩), .int .u8 how, .slice KA key.length kc] u (seekPost Ω u g s id (seekX (foD q.D) id how key)) := by
  refine cursor_Cursor_Seek.calls okay ?_
  unfold cursor_Cursor_Seek.W
  intro gc u1 f1 gk u2 f2
  have hgl := hc.lt
  have b1 := f1.blk.ext f2.ext
  have b2 := f2.blk
  have e2 : Ext u u2 := f1.ext.trans' f2.ext
  have hne : gc ≠ g := fun e => by have := f1.ge; omega
  have hgcl := f1.blk.lt
  refine ⟨_, b1.cell0 rfl, (cMade (hc.ext e2)).same ⟨_, rfl, brnb (fun h => by cases h) fun _ => ⟨_, _, makeMap_run _ _, ?_⟩⟩⟩
  have m0 := MapK.new fU u2
  have q0 : Ext u2 (u2.alloc (.map #[] 0)) := Fr.alloc NoB u2 _
  obtain ⟨w1, r1, m1, q1⟩ := m0.update (P := Tryz.prog) keyU (t := 94) (kt := 26) (et := 93) (by kernel_rfl) 1 (.func (.func 41) #[] #[.pointer (some ⟨gc, 0, none⟩), .pointer (some ⟨gk, 0, none⟩)])
  obtain ⟨w2, r2, m2, q2⟩ := m1.update (P := Tryz.prog) keyU (t := 94) (kt := 26) (et := 93) (by kernel_rfl) 2 (.func (.func 43) #[] #[.pointer (some ⟨gc, 0, none⟩), .pointer (some ⟨gk, 0, none⟩)])
  obtain ⟨w3, r3, m3, q3⟩ := m2.update (P := Tryz.prog) keyU (t := 94) (kt := 26) (et := 93) (by kernel_rfl) 3 (.func (.func 44) #[] #[.pointer (some ⟨gc, 0, none⟩), .pointer (some ⟨gk, 0, none⟩)])
  obtain ⟨w4, r4, m4, q4⟩ := m3.update (P := Tryz.prog) keyU (t := 94) (kt := 26) (et := 93) (by kernel_rfl) 4 (.func (.func 46) #[] #[.pointer (some ⟨gc, 0, none⟩), .pointer (some ⟨gk, 0, none⟩)])
  have off : ∀ k, k < u2.heap.size → ¬ k = u2.heap.size := fun k hk e => by omega
  have e4 : Ext u2 w4 := (((q0.trans q1 (fun _ _ h => h) (fun k hk e => off k hk e)).trans q2 (fun _ _ h => h) (fun k hk e => off k hk e)).trans q3 (fun _ _ h => h) (fun k hk e => off k hk e)).trans q4 (fun _ _ h => h) (fun k hk e => off k hk e)
  refine ⟨_, r1, _, r2, _, r3, _, r4, ?_⟩
  have e04 := e2.trans' e4
  have hl := (m4.look (P := Tryz.prog) keyU (t := 94) (kt := 26) (et := 93) (by kernel_rfl) how (z := .nilFunc) zeroF).2
  have c1 := b1.ext e4
  have c2 := b2.ext e4
  have h4 := h.ext e04
  have iK4 := iK.ext KB_pos e04
  have hcur := hc
  obtain ⟨KA0, n0, c0, ok0, hb, hk0⟩ := hc
  have hb4 := hb.ext e04
  have ed : Ext w4 w4.drew := Fr.drew NoB w4
  rcases Classical.em (how = 1) with rfl | h1
  · replace hl : RunsTo Tryz.prog (Instr.lookup 94 (.map (some u2.heap.size)) (.int .u8 1) false) w4 (.func (.func 41) #[] #[.pointer (some ⟨gc, 0, none⟩), .pointer (some ⟨gk, 0, none⟩)]) w4 := hl
    exact ⟨_, _, hl, Eq.mpr (show _ = seekNest 41 gc gk w4 (seekPost Ω u g s id ((gF (foD q.D) id).bind (aftE key true))) by kernel_rfl) (seekNest_of e04 hb4 c1 hne hΩ hg (by kernel_rfl) (seek1 (h4.ext ed) (hb4.ext ed) (c1.ext ed) (c2.ext ed) (iK4.ext KB_pos ed)))⟩
  rcases Classical.em (how = 2) with rfl | h2
  · replace hl : RunsTo Tryz.prog (Instr.lookup 94 (.map (some u2.heap.size)) (.int .u8 2) false) w4 (.func (.func 43) #[] #[.pointer (some ⟨gc, 0, none⟩), .pointer (some ⟨gk, 0, none⟩)]) w4 := hl
    exact ⟨_, _, hl, Eq.mpr (show _ = seekNest 43 gc gk w4 (seekPost Ω u g s id ((gF (foD q.D) id).bind (aftE key false))) by kernel_rfl) (seekNest_of e04 hb4 c1 hne hΩ hg (by kernel_rfl) (seek2 (h4.ext ed) (hb4.ext ed) (c1.ext ed) (c2.ext ed) (iK4.ext KB_pos ed)))⟩
  rcases Classical.em (how = 3) with rfl | h3
  · replace hl : RunsTo Tryz.prog (Instr.lookup 94 (.map (some u2.heap.size)) (.int .u8 3) false) w4 (.func (.func 44) #[] #[.pointer (some ⟨gc, 0, none⟩), .pointer (some ⟨gk, 0, none⟩)]) w4 := hl
    exact ⟨_, _, hl, Eq.mpr (show _ = seekNest 44 gc gk w4 (seekPost Ω u g s id ((gF (foD q.D) id).bind (befE key true))) by kernel_rfl) (seekNest_of e04 hb4 c1 hne hΩ hg (by kernel_rfl) (seek3 (h4.ext ed) (hb4.ext ed) (c1.ext ed) (c2.ext ed) (iK4.ext KB_pos ed)))⟩
  rcases Classical.em (how = 4) with rfl | h4'
  · replace hl : RunsTo Tryz.prog (Instr.lookup 94 (.map (some u2.heap.size)) (.int .u8 4) false) w4 (.func (.func 46) #[] #[.pointer (some ⟨gc, 0, none⟩), .pointer (some ⟨gk, 0, none⟩)]) w4 := hl
    exact ⟨_, _, hl, Eq.mpr (show _ = seekNest 46 gc gk w4 (seekPost Ω u g s id ((gF (foD q.D) id).bind (befE key false))) by kernel_rfl) (seekNest_of e04 hb4 c1 hne hΩ hg (by kernel_rfl) (seek4 (h4.ext ed) (hb4.ext ed) (c1.ext ed) (c2.ext ed) (iK4.ext KB_pos ed)))⟩
  have hX : seekX (foD q.D) id how key = none := by unfold seekX; rw [if_neg h1, if_neg h2, if_neg h3, if_neg h4']
  rw [hX]
  have hget : ∀ a b c d : Value, getM (setM (setM (setM (setM [] 1 a) 2 b) 3 c) 4 d) how = none := fun a b c d => by
    show (if how = 1 then _ else if how = 2 then _ else if how = 3 then _ else if how = 4 then _ else none) = none
    rw [if_neg h1, if_neg h2, if_neg h3, if_neg h4']
  rw [hget] at hl
  replace hl : RunsTo Tryz.prog (Instr.lookup 94 (.map (some u2.heap.size)) (.int .u8 how) false) w4 .nilFunc w4 := hl
  refine ⟨_, _, hl, Eq.mpr (show _ = (∃ x, w4.cell? ⟨gc, 0, none⟩ = some (.pointer x) ∧ CallsV Tryz.prog 47 #[.pointer x, .slice none 0 0, .slice none 0 0, .bool false] w4 fun v w' => ∃ x, v = .bool x ∧ seekPost Ω u g s id none (.bool x) w') by kernel_rfl) ?_⟩
  refine ⟨_, c1.cell0 rfl, (cPut (v0 := .bool true) hb4 none none 0 0 0 0 false).mono ?_⟩
  rintro _ w' ⟨rfl, hb', f⟩
  exact ⟨_, rfl, rfl, ⟨_, _, _, _, hb', rfl⟩, (Fr.mono e04 fun _ _ h => h.elim).trans f (fun _ _ h => h) (fun _ _ h => h)⟩
end
end Go.Proofs.YthfagbfllheneaaGreat
set_option linter.unusedVariables false
set_option linter.unusedSimpArgs false
namespace Go.Proofs.YthfagbfllheneaaGreat
open Go Go.Sx T4
def upF (F : List (Int × Es)) (id : Int) (es : Es) : List (Int × Es) := F.map fun p => if p.1 = id then (p.1, es) else p
def sizeF (F : List (Int × Es)) : Nat := (F.map fun p => 1 + p.2.length).sum
theorem upF_out {F : List (Int × Es)} {id : Int} {es : Es} (h : ∀ p ∈ F, p.1 ≠ id) : upF F id es = F := by
  unfold upF
  conv => rhs; rw [← List.map_id F]
  exact List.map_congr_left fun p hp => by rw [if_neg (h p hp)]; rfl
theorem fo_up {D1 D2 : List Tr} {d d' : Tr} (hn : ((D1 ++ d :: D2).map fun d => d.r).Nodup) (hr : d'.r = d.r) : foD (D1 ++ d' :: D2) = upF (foD (D1 ++ d :: D2)) d.r d'.es := by
  have hx := nd_mid hn
  have o1 : upF (foD D1) d.r d'.es = foD D1 := upF_out fun p hp => by
    obtain ⟨x, h, rfl⟩ := List.mem_map.1 hp; exact hx x (List.mem_append_left _ h)
  have o2 : upF (foD D2) d.r d'.es = foD D2 := upF_out fun p hp => by
    obtain ⟨x, h, rfl⟩ := List.mem_map.1 hp; exact hx x (List.mem_append_right _ h)
  have e : upF (foD (D1 ++ d :: D2)) d.r d'.es = upF (foD D1) d.r d'.es ++ (d.r, d'.es) :: upF (foD D2) d.r d'.es := by simp [upF, foD, fo]
  rw [e, o1, o2]
  simp [foD, fo, hr]
theorem nodes_size {A : Ar} {D : List Tr} (h : Inv A D) : A.nodes ≤ sizeF (foD D) := by
  rw [h.nodesE]
  unfold sizeF foD
  rw [List.map_map]
  have : ∀ (l : List Tr), (∀ d ∈ l, d ∈ D) → (l.map fun d => d.ps.length).sum ≤ (l.map ((fun p : Int × Es => 1 + p.2.length) ∘ fo)).sum := by
    intro l
    induction l with
    | nil => intro _; exact Nat.le_refl _
    | cons x l ih =>
      intro hl
      have h1 := ih fun d hd => hl d (by simp [hd])
      have h2 : x.ps.length ≤ 1 + x.es.length := (h.tree x (hl x (by simp))).places h.f1
      simp only [List.map_cons, List.sum_cons]
      have h3 : ((fun p : Int × Es => 1 + p.2.length) ∘ fo) x = 1 + x.es.length := rfl
      omega
  exact this D fun _ h => h
theorem tree_low {A : Ar} {D1 D2 : List Tr} {d : Tr} (h : Inv A (D1 ++ d :: D2)) : d.h ≤ A.nodes := by
  have h1 := h.at_.tree.height
  have h2 := h.at_.acc.nodes
  omega
section
variable {T : Nat → Prop} {u : World} {s : Nat} {A : Ar} {D : List Tr} {ms : List (Ar × List Tr)}
theorem kPut (h : Sto T u s ⟨A, D, ms⟩) {id : Int} {es : Es} (hg : gF (foD D) id = some es) (hroom : 2 * sizeF (foD D) + 1 ≤ A.most) {key val : Key} (hk : key.length ≤ 1048576) (hv : val.length ≤ 1048576) {Ω1 Ω2 : Nat → Prop} {KA VA : Option Addr} (iK : Imm KB Ω1 u KA key) (iV : Imm KB Ω2 u VA val) (kc vc : Nat) :
    CallsV Tryz.prog 22 #[.pointer (some ⟨s, 0, none⟩), .int .i64 id, .slice KA key.length kc, .slice VA val.length vc] u fun r u' => r = .tuple #[.bool (inE key es), .int .i64 0] ∧ ∃ A' D' T', Sto T' u' s ⟨A', D', ms⟩ ∧ Tch T u T' u' ∧ Same A A' ∧ foD D' = upF (foD D) id (insE key val es) := by
  obtain ⟨A', D', was, e, rel, hP⟩ := aPut (A := A) (D := D) h.inv id hk hv
  refine (hP h iK iV kc vc).mono ?_
  rintro _ u' ⟨rfl, T', h', c⟩
  rcases rel.rel with ⟨h1, _⟩ | ⟨D1, d, D2, d', full, hD, hr, rfl, hr', rfl, rfl, hfu, hno⟩
  · rw [hg] at h1; cases h1
  · have hI := h.inv
    replace hI : Inv A D := hI
    rw [hD] at hI
    have hes : d.es = es := by
      have : gF (foD D) id = some d.es := by
        rw [hD, ← hr]
        exact gF_nd hI.ndF (k := D1.length) (by simp [foD, fo])
      rw [hg] at this; exact (Option.some.inj this).symm
    have : full = false := by
      cases full with
      | false => rfl
      | true => have h1 := (hfu rfl).2.2.2; have := nodes_size hI; have := tree_low hI; rw [← hD] at *; omega
    subst this
    refine ⟨by rw [hes]; simp, A', _, T', h', c, rel.same, ?_⟩
    rw [fo_up hI.nd hr', hno rfl, hr, hes, ← hD]
theorem kDel (h : Sto T u s ⟨A, D, ms⟩) {id : Int} {es : Es} (hg : gF (foD D) id = some es) (key : Key) {Ω1 : Nat → Prop} {KA : Option Addr} (iK : Imm KB Ω1 u KA key) (kc : Nat) :
    CallsV Tryz.prog 30 #[.pointer (some ⟨s, 0, none⟩), .int .i64 id, .slice KA key.length kc] u fun r u' => r = .tuple #[.bool (inE key es), .int .i64 0] ∧ ∃ A' D' T', Sto T' u' s ⟨A', D', ms⟩ ∧ Tch T u T' u' ∧ Same A A' ∧ foD D' = upF (foD D) id (delE key es) := by
  obtain ⟨A', D', was, e, rel, hP⟩ := aDel (A := A) (D := D) h.inv id key
  refine (hP h iK kc).mono ?_
  rintro _ u' ⟨rfl, T', h', c⟩
  rcases rel.rel with ⟨h1, _⟩ | ⟨D1, d, D2, d', hD, hr, rfl, hr', rfl, rfl, he⟩
  · rw [hg] at h1; cases h1
  · have hI := h.inv
    replace hI : Inv A D := hI
    rw [hD] at hI
    have hes : d.es = es := by
      have : gF (foD D) id = some d.es := by
        rw [hD, ← hr]
        exact gF_nd hI.ndF (k := D1.length) (by simp [foD, fo])
      rw [hg] at this; exact (Option.some.inj this).symm
    refine ⟨by rw [hes], A', _, T', h', c, rel.same, ?_⟩
    rw [fo_up hI.nd hr', he, hr, hes, ← hD]
theorem kCreate (h : Sto T u s ⟨A, D, ms⟩) (hl : A.last < 1000000) (hroom : sizeF (foD D) < A.most) (hD : D.length < 1000) :
    CallsV Tryz.prog 20 #[.pointer (some ⟨s, 0, none⟩)] u fun r u' => r = .tuple #[iv (A.last + 1), .int .i64 0] ∧ ∃ A' D' T', Sto T' u' s ⟨A', D', ms⟩ ∧ Tch T u T' u' ∧ A'.fan = A.fan ∧ A'.most = A.most ∧ A'.last = A.last + 1 ∧ foD D' = foD D ++ [(((A.last + 1 : Nat) : Int), [])] := by
  obtain ⟨A', D', n, e, rel, hP⟩ := aCreate (A := A) (D := D) h.inv hl
  refine (hP h).mono ?_
  rintro _ u' ⟨rfl, T', h', c⟩
  rcases rel.rel with ⟨_, _, h3, rfl, rfl, i, rfl⟩ | ⟨hf, _⟩
  · exact ⟨rfl, A', _, T', h', c, rel.fan, rel.most, h3, by simp [foD, fo]⟩
  · have hI : Inv A D := h.inv
    have := nodes_size hI; omega
/-! ## the helpers -/
end
end Go.Proofs.YthfagbfllheneaaGreat
set_option linter.unusedVariables false
set_option maxRecDepth 100000
namespace Go.Proofs.YthfagbfllheneaaGreat
open Go Go.Sx
noncomputable def cardindexlaw06_b.W : ByteArray → World → (Value → World → Prop) → Prop := fun (s : ByteArray) (w : World) (K : Value → World → Prop) => ∃ (x : Option Addr) (x_1 x_2 : Nat) (w' :
 World), RunsTo Tryz.prog (convert 9 30 (Value.string s)) w (Value.slice x x_1 x_2) w' ∧ K (Value.slice x x_1 x_2) w'
theorem cardindexlaw06_b.calls (ok : Okay Tryz.prog) {s : ByteArray} {w : World} {K : Value → World → Prop} (h : cardindexlaw06_b.W s w K) : CallsV Tryz.prog 7 #[.string s] w K :=
  fnW_calls ok Tryz.func7 (an := (.named .auto)) (args := [.string s]) (Eq.mp (by kernel_rfl) h)
noncomputable def cardindexlaw06_at.W : Option Addr → ByteArray → World → (Value → World → Prop) → Prop := fun (c : Option Addr) (key : ByteArray) (w : World) (K : Value → World → Prop) => CallsV
 Tryz.prog 17 #[Value.pointer c] w fun (v : Value) (w' : World) => ∃ (x : Bool), v = Value.bool x ∧ bif decide (x = !ByteArray.toList key == ByteArray.toList (ByteArray.mk #[])) then CallsV
 Tryz.prog 38 #[Value.pointer c] w' fun (v : Value) (w' : World) => ∃ (x : Option Addr) (x_1 x_2 : Nat), v = Value.slice x x_1 x_2 ∧ ∃ (x_3 : ByteArray) (w'_1 : World), RunsTo Tryz.prog (convert 30 9
 (Value.slice x x_1 x_2)) w' (Value.string x_3) w'_1 ∧ K (Value.bool (ByteArray.toList x_3 == ByteArray.toList key)) w'_1 else K (Value.bool false) w'
theorem cardindexlaw06_at.calls (ok : Okay Tryz.prog) {c : Option Addr} {key : ByteArray} {w : World} {K : Value → World → Prop} (h : cardindexlaw06_at.W c key w K) : CallsV Tryz.prog 8 #[.pointer c, .string key] w K :=
  fnW_calls ok Tryz.func8 (an := (.named .auto)) (args := [.pointer c, .string key]) (Eq.mp (by kernel_rfl) h)
noncomputable def cardindexlaw06_store.W : Option Addr → Nat → Nat → World → (Value → World → Prop) → Prop := fun (keys_A : Option Addr) (keys_n keys_c : Nat) (w : World) (K : Value → World → Prop) =>
 CallsV Tryz.prog 19 #[Value.int IntKind.i64 (4 : Int), Value.int IntKind.i64 (100 : Int)] w fun (v : Value) (w' : World) => ∃ (x : Option Addr) (x_1 : Int), v = Value.tuple #[Value.pointer x, Value.int
 IntKind.i64 x_1] ∧ CallsV Tryz.prog 20 #[Value.pointer x] w' fun (v : Value) (w' : World) => ∃ (x_2 x_3 : Int), v = Value.tuple #[Value.int IntKind.i64 x_2, Value.int IntKind.i64 x_3] ∧ ∃ (I : Int →
 World → Prop) (μ : Int → World → Nat), I (0 : Int) w' ∧ ∀ (x_4 : Int) (w : World), I x_4 w → bif decide (x_4 < (↑keys_n : Int)) then ∃ (ad : Addr), keys_A = some ad ∧ ((0 : Int) ≤ x_4
 ∧ x_4 < (↑keys_n : Int)) ∧ ∃ (x_5 : ByteArray), World.cell? w (Addr.add ad (Int.toNat x_4 * 1)) = some (Value.string x_5) ∧ CallsV Tryz.prog 7 #[Value.string x_5] w fun (v : Value) (w' : World)
 => ∃ (x_6 : Option Addr) (x_7 x_8 : Nat), v = Value.slice x_6 x_7 x_8 ∧ CallsV Tryz.prog 7 #[Value.string x_5] w' fun (v : Value) (w' : World) => ∃ (x_9 : Option Addr) (x_10 x_11 : Nat), v =
 Value.slice x_9 x_10 x_11 ∧ CallsV Tryz.prog 22 #[Value.pointer x, Value.int IntKind.i64 x_2, Value.slice x_6 x_7 x_8, Value.slice x_9 x_10 x_11] w' fun (v : Value) (w' : World) => ∃ (x : Bool) (x_12 :
 Int), v = Value.tuple #[Value.bool x, Value.int IntKind.i64 x_12] ∧ I (IntKind.wrap IntKind.i64 (x_4 + (1 : Int))) w' ∧ μ (IntKind.wrap IntKind.i64 (x_4 + (1 : Int))) w' < μ x_4 w else CallsV Tryz.prog
 14 #[Value.pointer x, Value.int IntKind.i64 x_2] w fun (v : Value) (w' : World) => ∃ (x_5 : Option Addr) (x_6 : Int), v = Value.tuple #[Value.pointer x_5, Value.int IntKind.i64 x_6] ∧ bif
 decide (x_1 = (0 : Int)) then bif decide (x_3 = (0 : Int)) then bif decide (x_6 = (0 : Int)) then K (Value.tuple #[Value.pointer x, Value.pointer x_5, Value.bool
 (decide (x_2 = (1 : Int)))]) w' else K (Value.tuple #[Value.pointer x, Value.pointer x_5, Value.bool false]) w' else K (Value.tuple #[Value.pointer x, Value.pointer x_5, Value.bool
 false]) w' else K (Value.tuple #[Value.pointer x, Value.pointer x_5, Value.bool false]) w'
theorem cardindexlaw06_store.calls (ok : Okay Tryz.prog) {keys_A : Option Addr} {keys_n : Nat} {keys_c : Nat} {w : World} {K : Value → World → Prop} (h : cardindexlaw06_store.W keys_A keys_n keys_c w K) : CallsV Tryz.prog 5 #[.slice keys_A keys_n keys_c] w K :=
  fnW_calls ok Tryz.func5 (an := (.named (.seq .auto (.seq .auto (.seq .auto (.seq (.seq .auto (.block (.loop [(24, .one (.int .i64))] .auto))) .auto)))))) (args := [.slice keys_A keys_n keys_c]) (Eq.mp (by kernel_rfl) h)
noncomputable def cardindexlaw06_awake.W : World → (Value → World → Prop) → Prop := fun (w : World) (K : Value → World → Prop) => ∀ (g : Nat) (w' : World), Fresh w g w' [Value.string (ByteArray.mk
 #[(97 : UInt8)]), Value.string (ByteArray.mk #[(99 : UInt8)])] 9 → CallsV Tryz.prog 5 #[Value.slice (some (Addr.mk g 0 none)) 2 2] w' fun (v : Value) (w' : World) => ∃ (x x_1 : Option
 Addr) (x_2 : Bool), v = Value.tuple #[Value.pointer x, Value.pointer x_1, Value.bool x_2] ∧ bif !x_2 then K (Value.bool false) w' else CallsV Tryz.prog 7 #[Value.string (ByteArray.mk #[(98 :
 UInt8)])] w' fun (v : Value) (w' : World) => ∃ (x : Option Addr) (x_3 x_4 : Nat), v = Value.slice x x_3 x_4 ∧ CallsV Tryz.prog 6 #[Value.pointer x_1, Value.int IntKind.u8 (1 : Int), Value.slice x x_3
 x_4] w' fun (v : Value) (w' : World) => ∃ (x : Bool), v = Value.bool x ∧ bif !x then K (Value.bool false) w' else CallsV Tryz.prog 8 #[Value.pointer x_1, Value.string (ByteArray.mk #[(99 :
 UInt8)])] w' fun (v : Value) (w' : World) => ∃ (x : Bool), v = Value.bool x ∧ bif !x then K (Value.bool false) w' else CallsV Tryz.prog 10 #[Value.pointer x_1] w' fun (v : Value) (w' : World) => ∃
 (x : Bool), v = Value.bool x ∧ bif !x then K (Value.bool false) w' else CallsV Tryz.prog 8 #[Value.pointer x_1, Value.string (ByteArray.mk #[(97 : UInt8)])] w' fun (v : Value) (w' : World) => ∃ (x
 : Bool), v = Value.bool x ∧ bif !x then K (Value.bool false) w' else CallsV Tryz.prog 11 #[Value.pointer x_1] w' fun (v : Value) (w' : World) => ∃ (x : Int), v = Value.int IntKind.i64 x ∧ bif
 !decide (x = (0 : Int)) then K (Value.bool false) w' else CallsV Tryz.prog 8 #[Value.pointer x_1, Value.string (ByteArray.mk #[])] w' fun (v : Value) (w' : World) => ∃ (x : Bool), v =
 Value.bool x ∧ bif !x then K (Value.bool false) w' else CallsV Tryz.prog 9 #[Value.pointer x_1] w' fun (v : Value) (w' : World) => ∃ (x : Bool), v = Value.bool x ∧ bif !x then K (Value.bool
 false) w' else CallsV Tryz.prog 8 #[Value.pointer x_1, Value.string (ByteArray.mk #[(99 : UInt8)])] w' fun (v : Value) (w' : World) => ∃ (x : Bool), v = Value.bool x ∧ bif !x then K (Value.bool
 false) w' else CallsV Tryz.prog 7 #[Value.string (ByteArray.mk #[(98 : UInt8)])] w' fun (v : Value) (w' : World) => ∃ (x : Option Addr) (x_5 x_6 : Nat), v = Value.slice x x_5 x_6 ∧ CallsV
 Tryz.prog 7 #[Value.string (ByteArray.mk #[(49 : UInt8)])] w' fun (v : Value) (w' : World) => ∃ (x_7 : Option Addr) (x_8 x_9 : Nat), v = Value.slice x_7 x_8 x_9 ∧ CallsV Tryz.prog 16 #[Value.pointer
 x_1, Value.slice x x_5 x_6, Value.slice x_7 x_8 x_9] w' fun (v : Value) (w' : World) => ∃ (x : Bool) (x_10 : Int), v = Value.tuple #[Value.bool x, Value.int IntKind.i64 x_10] ∧ bif x then K (Value.bool
 false) w' else bif !decide (x_10 = (0 : Int)) then K (Value.bool false) w' else CallsV Tryz.prog 8 #[Value.pointer x_1, Value.string (ByteArray.mk #[(98 : UInt8)])] w' fun (v :
 Value) (w' : World) => ∃ (x : Bool), v = Value.bool x ∧ bif !x then K (Value.bool false) w' else CallsV Tryz.prog 39 #[Value.pointer x_1] w' fun (v : Value) (w' : World) => ∃ (x : Option Addr)
 (x_11 x_12 : Nat), v = Value.slice x x_11 x_12 ∧ ∃ (x_13 : ByteArray) (w'_1 : World), RunsTo Tryz.prog (convert 30 9 (Value.slice x x_11 x_12)) w' (Value.string x_13) w'_1 ∧ bif !ByteArray.toList x_13
 == ByteArray.toList (ByteArray.mk #[(49 : UInt8)]) then K (Value.bool false) w'_1 else CallsV Tryz.prog 9 #[Value.pointer x_1] w'_1 fun (v : Value) (w' : World) => ∃ (x : Bool), v = Value.bool x ∧
 bif !x then K (Value.bool false) w' else CallsV Tryz.prog 8 #[Value.pointer x_1, Value.string (ByteArray.mk #[(99 : UInt8)])] w' fun (v : Value) (w' : World) => ∃ (x : Bool), v = Value.bool x ∧
 bif !x then K (Value.bool false) w' else CallsV Tryz.prog 9 #[Value.pointer x_1] w' fun (v : Value) (w' : World) => ∃ (x : Bool), v = Value.bool x ∧ bif x then K (Value.bool false) w' else
 CallsV Tryz.prog 9 #[Value.pointer x_1] w' fun (v : Value) (w' : World) => ∃ (x : Bool), v = Value.bool x ∧ bif x then K (Value.bool false) w' else CallsV Tryz.prog 17 #[Value.pointer x_1] w' fun
 (v : Value) (w' : World) => ∃ (x : Bool), v = Value.bool x ∧ bif x then K (Value.bool false) w' else ∀ (g : Nat) (w'_2 : World), Fresh w' g w'_2 [Value.string (ByteArray.mk #[(98 : UInt8)])] 9 →
 CallsV Tryz.prog 5 #[Value.slice (some (Addr.mk g 0 none)) 1 1] w'_2 fun (v : Value) (w' : World) => ∃ (x x_14 : Option Addr) (x_15 : Bool), v = Value.tuple #[Value.pointer x,
 Value.pointer x_14, Value.bool x_15] ∧ CallsV Tryz.prog 31 #[Value.pointer x] w' fun (v : Value) (w' : World) => ∃ (x_16 x_17 : Int), v = Value.tuple #[Value.int IntKind.i64 x_16, Value.int IntKind.i64
 x_17] ∧ CallsV Tryz.prog 7 #[Value.string (ByteArray.mk #[(98 : UInt8)])] w' fun (v : Value) (w' : World) => ∃ (x_18 : Option Addr) (x_19 x_20 : Nat), v = Value.slice x_18 x_19 x_20 ∧ CallsV Tryz.prog
 30 #[Value.pointer x, Value.int IntKind.i64 (1 : Int), Value.slice x_18 x_19 x_20] w' fun (v : Value) (w' : World) => ∃ (x_21 : Bool) (x_22 : Int), v = Value.tuple #[Value.bool x_21, Value.int
 IntKind.i64 x_22] ∧ CallsV Tryz.prog 7 #[Value.string (ByteArray.mk #[(97 : UInt8)])] w' fun (v : Value) (w' : World) => ∃ (x_23 : Option Addr) (x_24 x_25 : Nat), v = Value.slice x_23 x_24 x_25 ∧
 CallsV Tryz.prog 22 #[Value.pointer x, Value.int IntKind.i64 (1 : Int), Value.slice x_23 x_24 x_25, Value.slice none 0 0] w' fun (v : Value) (w' : World) => ∃ (x_26 : Bool) (x_27 : Int), v =
 Value.tuple #[Value.bool x_26, Value.int IntKind.i64 x_27] ∧ bif x_15 then CallsV Tryz.prog 13 #[Value.pointer x_14] w' fun (v : Value) (w' : World) => ∃ (x_28 : Bool), v = Value.bool x_28 ∧ bif x_28
 then CallsV Tryz.prog 8 #[Value.pointer x_14, Value.string (ByteArray.mk #[(97 : UInt8)])] w' fun (v : Value) (w' : World) => ∃ (x_29 : Bool), v = Value.bool x_29 ∧ bif x_29 then CallsV Tryz.prog 33
 #[Value.pointer x, Value.int IntKind.i64 (1 : Int)] w' fun (v : Value) (w' : World) => ∃ (x : Int), v = Value.int IntKind.i64 x ∧ bif decide (x = (0 : Int)) then CallsV Tryz.prog 8
 #[Value.pointer x_14, Value.string (ByteArray.mk #[])] w' fun (v : Value) (w' : World) => ∃ (x : Bool), v = Value.bool x ∧ bif x then CallsV Tryz.prog 9 #[Value.pointer x_14] w' fun (v : Value) (w' :
 World) => ∃ (x : Bool), v = Value.bool x ∧ bif x then CallsV Tryz.prog 8 #[Value.pointer x_14, Value.string (ByteArray.mk #[(98 : UInt8)])] w' fun (v : Value) (w' : World) => ∃ (x : Bool), v =
 Value.bool x ∧ K (Value.bool x) w' else K (Value.bool false) w' else K (Value.bool false) w' else K (Value.bool false) w' else K (Value.bool false) w' else K (Value.bool false)
 w' else K (Value.bool false) w'
theorem cardindexlaw06_awake.calls (ok : Okay Tryz.prog)  {w : World} {K : Value → World → Prop} (h : cardindexlaw06_awake.W  w K) : CallsV Tryz.prog 18 #[] w K :=
  fnW_calls ok Tryz.func18 (an := (.named .auto)) (args := []) (Eq.mp (by kernel_rfl) h)
end Go.Proofs.YthfagbfllheneaaGreat
set_option linter.unusedVariables false
set_option linter.unusedSimpArgs false
namespace Go.Proofs.YthfagbfllheneaaGreat
open Go Go.Sx T4
theorem b6 (w : World) (l : List UInt8) (hl : l.length ≤ 1048576) : CallsV Tryz.prog 7 #[.string ⟨l.toArray⟩] w fun r w' => ∃ A c, r = .slice A l.length c ∧ OwnB w' A c l ∧ Ext w w' ∧ New w A := by
  refine cardindexlaw06_b.calls okay ?_
  unfold cardindexlaw06_b.W
  obtain ⟨A, c, w', h1, h2, h3, h4, _⟩ := to_bytes bt w ⟨l.toArray⟩ (by show l.toArray.size ≤ maxLen; simp [maxLen]; omega)
  have e : sb ⟨l.toArray⟩ = l := rfl
  rw [e] at h1 h2
  exact ⟨_, _, _, _, h1, A, c, rfl, h2, h3, h4⟩
structure Cu (w u : World) (T : Nat → Prop) (s g : Nat) (A : Ar) (D : List Tr) (ms : List (Ar × List Tr)) (k : Option Key) (F : List (Int × Es)) : Prop where
  sto : Sto T u s ⟨A, D, ms⟩
  cur : Cur (OC T fun k => k = g) u g s 1 k
  gT : ¬ T g
  e : Ext w u
  n : ∀ k, T k → w.heap.size ≤ k
  gw : w.heap.size ≤ g
  fo : foD D = F
  m : A.most = 100
section
variable {w u : World} {T : Nat → Prop} {s g : Nat} {A : Ar} {D : List Tr} {ms : List (Ar × List Tr)} {k : Option Key} {F : List (Int × Es)}
theorem Cu.lt (H : Cu w u T s g A D ms k F) : ∀ k, OC T (fun k => k = g) k → k < u.heap.size := by
  rintro k (hk | rfl)
  · exact H.sto.lt k hk
  · exact H.cur.lt
theorem Cu.ext (H : Cu w u T s g A D ms k F) {u' : World} (e : Ext u u') : Cu w u' T s g A D ms k F := ⟨H.sto.ext e, H.cur.ext e, H.gT, H.e.trans' e, H.n, H.gw, H.fo, H.m⟩
theorem Cu.moved (H : Cu w u T s g A D ms k F) {u' : World} {k' : Option Key} (hc : Cur (OC T fun k => k = g) u' g s 1 k') (f : Fr (fun k => k = g) u u') : Cu w u' T s g A D ms k' F :=
  ⟨H.sto.frame f fun k _ e ht => H.gT (by have e : k = g := e; exact e ▸ ht), hc, H.gT, H.e.trans f (fun _ _ h => h) (fun k hk e => by have e : k = g := e; have := H.gw; omega), H.n, H.gw, H.fo, H.m⟩
theorem Cu.tch (H : Cu w u T s g A D ms k F) {u' : World} {T' : Nat → Prop} {A' : Ar} {D' : List Tr} {ms' : List (Ar × List Tr)} {F' : List (Int × Es)} (h' : Sto T' u' s ⟨A', D', ms'⟩) (c : Tch T u T' u') (hF : foD D' = F') (hm : A'.most = 100) : Cu w u' T' s g A' D' ms' k F' := by
  obtain ⟨e', n'⟩ := c.keepExt H.e H.n
  obtain ⟨_, _, _, _, hb, _⟩ := H.cur
  exact ⟨h', H.cur.tch c H.gT, (c.blk hb H.gT).2, e', n', H.gw, hF, hm⟩
theorem aT (H : Cu w u T s g A D ms k F) {key v : Key} (hx : atX F 1 k = some (key, v)) (hn : key ≠ []) : CallsV Tryz.prog 8 #[.pointer (some ⟨g, 0, none⟩), .string ⟨key.toArray⟩] u fun r u' => r = .bool true ∧ Ext u u' := by
  refine cardindexlaw06_at.calls okay ?_
  unfold cardindexlaw06_at.W
  have hX : atX (foD D) 1 k = some (key, v) := by rw [H.fo]; exact hx
  have e0 : (ByteArray.toList ⟨key.toArray⟩ == ByteArray.toList (ByteArray.mk #[])) = decide (key = []) := eq_str key []
  refine (cValid H.sto H.cur).mono ?_
  rintro _ u1 ⟨rfl, e1⟩
  have H1 := H.ext e1
  refine ⟨_, rfl, brd (fun _ => (cKey H1.sto H1.cur).mono ?_) fun h => absurd ?_ h⟩
  · rintro r u2 ⟨e2, hr⟩
    replace hr : match atX (foD D) 1 k with
      | none => r = .slice none 0 0
      | some (key, _) => ∃ A c, r = .slice A key.length c ∧ OwnB u2 A c key ∧ New u1 A := hr
    rw [hX] at hr
    obtain ⟨B, d, rfl, o2, _⟩ := hr
    exact ⟨_, _, _, rfl, _, _, to_str bt o2.imm0 d, by rw [eq_str, decide_eq_true rfl], e1.trans' e2⟩
  · show (atX (foD D) 1 k).isSome = _
    rw [hX, e0, decide_eq_false hn]; rfl
theorem aN (H : Cu w u T s g A D ms k F) (hx : atX F 1 k = none) : CallsV Tryz.prog 8 #[.pointer (some ⟨g, 0, none⟩), .string ⟨([] : Key).toArray⟩] u fun r u' => r = .bool true ∧ Ext u u' := by
  refine cardindexlaw06_at.calls okay ?_
  unfold cardindexlaw06_at.W
  have hX : atX (foD D) 1 k = none := by rw [H.fo]; exact hx
  have e0 : (ByteArray.toList ⟨([] : Key).toArray⟩ == ByteArray.toList (ByteArray.mk #[])) = decide (([] : Key) = []) := eq_str [] []
  refine (cValid H.sto H.cur).mono ?_
  rintro _ u1 ⟨rfl, e1⟩
  have H1 := H.ext e1
  refine ⟨_, rfl, brd (fun _ => (cKey H1.sto H1.cur).mono ?_) fun h => absurd ?_ h⟩
  · rintro r u2 ⟨e2, hr⟩
    replace hr : match atX (foD D) 1 k with
      | none => r = .slice none 0 0
      | some (key, _) => ∃ A c, r = .slice A key.length c ∧ OwnB u2 A c key ∧ New u1 A := hr
    rw [hX] at hr
    obtain rfl : r = .slice none 0 0 := hr
    exact ⟨_, _, _, rfl, _, _, to_str bt (l := []) (Imm.nil KB NoB u2 none) 0, by rw [eq_str, decide_eq_true rfl], e1.trans' e2⟩
  · show (atX (foD D) 1 k).isSome = _
    rw [hX, e0]; rfl
end
def putsE (l : List Key) : Es := l.foldl (fun es k => insE k k es) []
theorem putsE_len (l : List Key) : (putsE l).length ≤ l.length := by
  have : ∀ (l : List Key) (es : Es), (l.foldl (fun es k => insE k k es) es).length ≤ es.length + l.length := by
    intro l
    induction l with
    | nil => intro es; simp
    | cons a l ih =>
      intro es
      have h1 := ih (insE a a es)
      have h2 : (insE a a es).length ≤ es.length + 1 := by rw [len_insE]; split <;> omega
      simp only [List.foldl_cons, List.length_cons]
      omega
  simpa [putsE] using this l []
theorem store_spec {w : World} {B : Option Addr} {c : Nat} {l : List Key} (h : ∀ i k, l[i]? = some k → ∃ ad, B = some ad ∧ w.cell? (ad.add (i * 1)) = some (.string ⟨k.toArray⟩)) (hl : l.length ≤ 10) (hk : ∀ k ∈ l, k.length ≤ 100) :
    CallsV Tryz.prog 5 #[.slice B l.length c] w fun r w' => ∃ s g T A D, r = .tuple #[.pointer (some ⟨s, 0, none⟩), .pointer (some ⟨g, 0, none⟩), .bool true] ∧ Cu w w' T s g A D [] none [(1, putsE l)] := by
  refine cardindexlaw06_store.calls okay ?_
  unfold cardindexlaw06_store.W
  refine (aNew w 4 100 (by decide) (by decide) (by decide) (by decide)).mono ?_
  rintro _ u0 ⟨s, T0, rfl, h0, e0, t0⟩
  refine ⟨_, _, rfl, (kCreate h0 (by decide) (by decide) (by decide)).mono ?_⟩
  rintro _ u1 ⟨rfl, A1, D1, T1, h1, c1, f1, m1, l1, F1⟩
  obtain ⟨x1, t1⟩ := c1.keepExt e0 t0
  replace F1 : foD D1 = [(1, [])] := F1
  replace m1 : A1.most = 100 := m1
  refine ⟨_, _, rfl, fun x v => ∃ j : Nat, x = (j : Int) ∧ j ≤ l.length ∧ ∃ T A D, Sto T v s ⟨A, D, []⟩ ∧ Ext w v ∧ (∀ k, T k → w.heap.size ≤ k) ∧ foD D = [(1, putsE (l.take j))] ∧ A.most = 100, fun x _ => (l.length - x).toNat, ⟨0, rfl, Nat.zero_le _, T1, A1, D1, h1, x1, t1, F1, m1⟩, ?_⟩
  clear h0 e0 t0 h1 c1 f1 m1 l1 F1 x1 t1
  rintro _ v ⟨j, rfl, hj, T, A, D, hs, e, n, hF, hm⟩
  refine brd (fun hlt => ?_) (fun hge => ?_)
  · have hjl : j < l.length := by omega
    have hx : l[j]? = some l[j] := List.getElem?_eq_getElem hjl
    obtain ⟨ad, hB, hc⟩ := h j _ hx
    have hkl := hk l[j] (List.getElem_mem hjl)
    have htk : l.take (j + 1) = l.take j ++ [l[j]] := by rw [List.take_add_one, hx]; rfl
    generalize l[j] = key at *
    refine ⟨ad, hB, ⟨by omega, by omega⟩, _, by rw [Int.toNat_natCast]; exact Ext.cell e hc, (b6 v key (by omega)).mono ?_⟩
    rintro _ v1 ⟨KA, kc, rfl, o1, e1, _⟩
    refine ⟨_, _, _, rfl, (b6 v1 key (by omega)).mono ?_⟩
    rintro _ v2 ⟨VA, vc, rfl, o2, e2, _⟩
    have e12 := e1.trans' e2
    have hlen := putsE_len (l.take j)
    rw [List.length_take] at hlen
    refine ⟨_, _, _, rfl, (kPut (hs.ext e12) (id := 1) (es := putsE (l.take j)) (by rw [hF]; rfl) (by rw [hF, hm]; simp [sizeF]; omega) (by omega) (by omega) (o1.ext e2).imm0 o2.imm0 kc vc).mono ?_⟩
    rintro _ v3 ⟨rfl, A', D', T', h', c', hs', hF'⟩
    obtain ⟨e3, n3⟩ := ((Tch.ext e12).trans c').keepExt e n
    rw [wi _ (by omega) (by omega)]
    refine ⟨_, _, rfl, ⟨j + 1, by omega, by omega, T', A', D', h', e3, n3, ?_, hs'.most.trans hm⟩, by dsimp only; omega⟩
    rw [hF', hF, htk]
    simp [upF, putsE, List.foldl_append]
  · obtain rfl : j = l.length := by omega
    rw [List.take_of_length_le (Nat.le_refl _)] at hF
    refine (cNew hs 1).mono ?_
    have hid : idsD D = [1] := by
      have : (foD D).map (fun p => p.1) = [1] := by rw [hF]; rfl
      rw [← this]; simp [foD, fo, idsD]
    rintro r v1 ⟨e1, ⟨_, g, rfl, hg, hc⟩ | ⟨hno, _⟩⟩
    · refine ⟨_, _, rfl, brd (fun _ => brd (fun _ => brd (fun _ => ⟨s, g, T, A, D, rfl, ⟨hs.ext e1, hc _, fun ht => ?_, e.trans' e1, n, Nat.le_trans e.size hg, hF, hm⟩⟩) fun h => absurd rfl h) fun h => absurd rfl h) fun h => absurd rfl h⟩
      have := hs.lt g ht; omega
    · exact absurd (by show (1 : Int) ∈ idsD D; rw [hid]; simp) hno
end Go.Proofs.YthfagbfllheneaaGreat
set_option linter.unusedVariables false
set_option linter.unusedSimpArgs false
namespace Go.Proofs.YthfagbfllheneaaGreat
open Go Go.Sx T4
theorem PutRel.room {A A' : Ar} {D D' : List Tr} {id : Int} {key val : Key} {was : Bool} {e : Int} (rel : PutRel A D id key val A' D' was e) (hI : Inv A D) {es : Es} (hg : gF (foD D) id = some es) (hroom : 2 * sizeF (foD D) + 1 ≤ A.most) : was = inE key es ∧ e = 0 ∧ foD D' = upF (foD D) id (insE key val es) := by
  rcases rel.rel with ⟨h1, _⟩ | ⟨D1, d, D2, d', full, hD, hr, rfl, hr', rfl, rfl, hfu, hno⟩
  · rw [hg] at h1; cases h1
  · rw [hD] at hI
    have hes : d.es = es := by
      have : gF (foD D) id = some d.es := by
        rw [hD, ← hr]
        exact gF_nd hI.ndF (k := D1.length) (by simp [foD, fo])
      rw [hg] at this; exact (Option.some.inj this).symm
    have : full = false := by
      cases full with
      | false => rfl
      | true => have h1 := (hfu rfl).2.2.2; have := nodes_size hI; have := tree_low hI; rw [← hD] at *; omega
    subst this
    refine ⟨by rw [hes]; simp, rfl, ?_⟩
    rw [fo_up hI.nd hr', hno rfl, hr, hes, ← hD]
theorem DelRel.look {A A' : Ar} {D D' : List Tr} {id : Int} {key : Key} {was : Bool} {e : Int} (rel : DelRel A D id key A' D' was e) (hI : Inv A D) {es : Es} (hg : gF (foD D) id = some es) : was = inE key es ∧ e = 0 ∧ foD D' = upF (foD D) id (delE key es) := by
  rcases rel.rel with ⟨h1, _⟩ | ⟨D1, d, D2, d', hD, hr, rfl, hr', rfl, rfl, he⟩
  · rw [hg] at h1; cases h1
  · rw [hD] at hI
    have hes : d.es = es := by
      have : gF (foD D) id = some d.es := by
        rw [hD, ← hr]
        exact gF_nd hI.ndF (k := D1.length) (by simp [foD, fo])
      rw [hg] at this; exact (Option.some.inj this).symm
    refine ⟨by rw [hes], rfl, ?_⟩
    rw [fo_up hI.nd hr', he, hr, hes, ← hD]
section
variable {w u : World} {T : Nat → Prop} {s g : Nat} {A : Ar} {D : List Tr} {ms : List (Ar × List Tr)} {k : Option Key} {F : List (Int × Es)}
theorem uNext (H : Cu w u T s g A D ms k F) {x : Option (Key × Key)} (hx : nextX F 1 k = x) : CallsV Tryz.prog 9 #[.pointer (some ⟨g, 0, none⟩)] u fun r u' => r = .bool x.isSome ∧ Cu w u' T s g A D ms (x.map fun p => p.1) F := by
  refine (cNext H.sto H.cur H.lt (.inr rfl)).mono ?_
  rintro r u' ⟨hr, hc, f⟩
  have e : nextX (foD D) 1 k = x := by rw [H.fo]; exact hx
  replace hr : r = .bool (nextX (foD D) 1 k).isSome := hr
  replace hc : Cur (OC T fun k => k = g) u' g s 1 ((nextX (foD D) 1 k).map fun p => p.1) := hc
  rw [e] at hr hc
  exact ⟨hr, H.moved hc f⟩
theorem uPrev (H : Cu w u T s g A D ms k F) {x : Option (Key × Key)} (hx : prevX F 1 k = x) : CallsV Tryz.prog 10 #[.pointer (some ⟨g, 0, none⟩)] u fun r u' => r = .bool x.isSome ∧ Cu w u' T s g A D ms (x.map fun p => p.1) F := by
  refine (cPrev H.sto H.cur H.lt (.inr rfl)).mono ?_
  rintro r u' ⟨hr, hc, f⟩
  have e : prevX (foD D) 1 k = x := by rw [H.fo]; exact hx
  replace hr : r = .bool (prevX (foD D) 1 k).isSome := hr
  replace hc : Cur (OC T fun k => k = g) u' g s 1 ((prevX (foD D) 1 k).map fun p => p.1) := hc
  rw [e] at hr hc
  exact ⟨hr, H.moved hc f⟩
theorem uSeek (H : Cu w u T s g A D ms k F) {x : Option (Key × Key)} {how : Int} {key : Key} (hx : seekX F 1 how key = x) {Ω1 : Nat → Prop} {KA : Option Addr} (iK : Imm KB Ω1 u KA key) (kc : Nat) : CallsV Tryz.prog 6 #[.pointer (some ⟨g, 0, none⟩), .int .u8 how, .slice KA key.length kc] u fun r u' => r = .bool x.isSome ∧ Cu w u' T s g A D ms (x.map fun p => p.1) F := by
  refine (cSeek H.sto H.cur H.lt (.inr rfl) iK kc how).mono ?_
  rintro r u' ⟨hr, hc, f⟩
  have e : seekX (foD D) 1 how key = x := by rw [H.fo]; exact hx
  replace hr : r = .bool (seekX (foD D) 1 how key).isSome := hr
  replace hc : Cur (OC T fun k => k = g) u' g s 1 ((seekX (foD D) 1 how key).map fun p => p.1) := hc
  rw [e] at hr hc
  exact ⟨hr, H.moved hc f⟩
theorem uRewind (H : Cu w u T s g A D ms k F) {x : Option (Key × Key)} (hx : (gF F 1).bind (aftE [] true) = x) : CallsV Tryz.prog 13 #[.pointer (some ⟨g, 0, none⟩)] u fun r u' => r = .bool x.isSome ∧ Cu w u' T s g A D ms (x.map fun p => p.1) F := by
  refine (cRewind H.sto H.cur H.lt (.inr rfl) H.gT).mono ?_
  rintro r u' ⟨y, hy, hr, hc, f⟩
  have e : y = x := by rw [hy]; show (gF (foD D) 1).bind _ = x; rw [H.fo]; exact hx
  subst e
  exact ⟨hr, H.moved hc f⟩
theorem uDelete (H : Cu w u T s g A D ms k F) {key v : Key} {es : Es} (hk : atX F 1 k = some (key, v)) (hg : gF F 1 = some es) (hid : 1 ∈ idsD D) : CallsV Tryz.prog 11 #[.pointer (some ⟨g, 0, none⟩)] u fun r u' => r = .int .i64 0 ∧ ∃ T' A' D', Cu w u' T' s g A' D' ms k (upF F 1 (delE key es)) ∧ idsD D' = idsD D := by
  refine (cDelete H.sto H.cur).mono ?_
  rintro r u' (⟨h1, _⟩ | ⟨_, h1, _⟩ | ⟨_, key', v', A', D', was, e, T', hk1, hat, rel, hr, h', c⟩)
  · exact absurd hid h1
  · rw [H.fo, hk] at h1; cases h1
  · rw [H.fo, hk] at hat
    obtain ⟨rfl, rfl⟩ : key = key' ∧ v = v' := by have := Option.some.inj hat; exact ⟨(Prod.mk.inj this).1, (Prod.mk.inj this).2⟩
    obtain ⟨_, rfl, hF⟩ := rel.look H.sto.inv (es := es) (by rw [H.fo]; exact hg)
    exact ⟨hr, T', A', D', H.tch h' c (by rw [hF, H.fo]) (rel.same.most.trans H.m), rel.ids⟩
theorem uInsert (H : Cu w u T s g A D ms k F) {key val : Key} {es : Es} (hg : gF F 1 = some es) (hroom : 2 * sizeF F + 1 ≤ 100) (hk : key.length ≤ 1048576) (hv : val.length ≤ 1048576) {KA VA : Option Addr} (iK : Imm KB T u KA key) (iV : Imm KB NoB u VA val) (kc vc : Nat) : CallsV Tryz.prog 16 #[.pointer (some ⟨g, 0, none⟩), .slice KA key.length kc, .slice VA val.length vc] u fun r u' => r = .tuple #[.bool (inE key es), .int .i64 0] ∧ ∃ T' A' D', Cu w u' T' s g A' D' ms (some key) (upF F 1 (insE key val es)) ∧ idsD D' = idsD D := by
  obtain ⟨A', D', was, e, rel, hP⟩ := cInsert (A := A) (D := D) H.sto.inv 1 (key := key) (val := val) hk hv
  refine (hP H.sto H.cur H.gT rfl (fun k e => by have e : k = g := e; rw [e]; exact H.cur.lt) iK iV (fun _ h => h) kc vc).mono ?_
  rintro r u' ⟨hr, T', v, h', c, f, hc⟩
  obtain ⟨rfl, rfl, hF⟩ := rel.room H.sto.inv (es := es) (by rw [H.fo]; exact hg) (by rw [H.fo, H.m]; exact hroom)
  obtain ⟨e1, n1⟩ := c.keepExt H.e H.n
  obtain ⟨_, _, _, _, hb, _⟩ := H.cur
  exact ⟨hr, T', A', D', ⟨h', hc, (c.blk hb H.gT).2, e1.trans f (fun _ _ h => h) (fun k hk e => by have e : k = g := e; have := H.gw; omega), n1, H.gw, by rw [hF, H.fo], rel.same.most.trans H.m⟩, rel.ids⟩
end
end Go.Proofs.YthfagbfllheneaaGreat
set_option linter.unusedVariables false
set_option linter.unusedSimpArgs false
namespace Go.Proofs.YthfagbfllheneaaGreat
open Go Go.Sx T4
theorem cuIds {w u : World} {T : Nat → Prop} {s g : Nat} {A : Ar} {D : List Tr} {ms : List (Ar × List Tr)} {k : Option Key} {F : List (Int × Es)} (H : Cu w u T s g A D ms k F) : idsD D = F.map fun p => p.1 := by
  rw [← H.fo]; simp [foD, fo, idsD]
set_option maxRecDepth 100000 in
set_option maxHeartbeats 1000000 in
theorem awake6_spec (w : World) : CallsV Tryz.prog 18 #[] w fun r w' => r = .bool true ∧ Ext w w' := by
  refine cardindexlaw06_awake.calls okay ?_
  unfold cardindexlaw06_awake.W
  intro g0 w0 f0
  refine (store_spec (l := [[97], [99]]) (fun i k hi => ?_) (by decide) (by decide)).mono ?_
  · match i, hi with
    | 0, hi => simp at hi; subst hi; exact ⟨_, rfl, f0.blk.cell rfl⟩
    | 1, hi => simp at hi; subst hi; exact ⟨_, rfl, f0.blk.cell rfl⟩
  rintro _ u1 ⟨s, g, T, A, D, rfl, H1⟩
  rw [show putsE [[97], [99]] = [([97], [97]), ([99], [99])] by decide] at H1
  refine ⟨_, _, _, rfl, brnb (fun h => by cases h) fun _ => (b6 u1 [98] (by decide)).mono ?_⟩
  rintro _ u2 ⟨KA, kc, rfl, o2, e2, _⟩
  refine ⟨_, _, _, rfl, (uSeek (H1.ext e2) (x := some ([99], [99])) (how := 1) (key := [98]) (by decide) o2.imm0 kc).mono ?_⟩
  rintro _ u3 ⟨rfl, H3⟩
  refine ⟨_, rfl, brnb (fun h => by cases h) fun _ => (aT H3 (key := [99]) (v := [99]) (by decide) (by decide)).mono ?_⟩
  rintro _ u4 ⟨rfl, e4⟩
  refine ⟨_, rfl, brnb (fun h => by cases h) fun _ => (uPrev (H3.ext e4) (x := some ([97], [97])) (by decide)).mono ?_⟩
  rintro _ u5 ⟨rfl, H5⟩
  refine ⟨_, rfl, brnb (fun h => by cases h) fun _ => (aT H5 (key := [97]) (v := [97]) (by decide) (by decide)).mono ?_⟩
  rintro _ u6 ⟨rfl, e6⟩
  refine ⟨_, rfl, brnb (fun h => by cases h) fun _ => (uDelete (H5.ext e6) (key := [97]) (v := [97]) (es := [([97], [97]), ([99], [99])]) (by decide) (by decide) (by rw [cuIds H5]; decide)).mono ?_⟩
  rintro _ u7 ⟨rfl, T7, A7, D7, H7, _⟩
  replace H7 : Cu w0 u7 T7 s g A7 D7 [] (some [97]) (upF [(1, [([97], [97]), ([99], [99])])] 1 (delE [97] [([97], [97]), ([99], [99])])) := H7
  rw [show upF [(1, [([97], [97]), ([99], [99])])] 1 (delE [97] [([97], [97]), ([99], [99])]) = [(1, [([99], [99])])] by decide] at H7
  refine ⟨_, rfl, brn (fun h => absurd rfl h) fun _ => (aN H7 (by decide)).mono ?_⟩
  rintro _ u8 ⟨rfl, e8⟩
  refine ⟨_, rfl, brnb (fun h => by cases h) fun _ => (uNext (H7.ext e8) (x := some ([99], [99])) (by decide)).mono ?_⟩
  rintro _ u9 ⟨rfl, H9⟩
  refine ⟨_, rfl, brnb (fun h => by cases h) fun _ => (aT H9 (key := [99]) (v := [99]) (by decide) (by decide)).mono ?_⟩
  rintro _ u10 ⟨rfl, e10⟩
  have H10 := H9.ext e10
  refine ⟨_, rfl, brnb (fun h => by cases h) fun _ => (b6 u10 [98] (by decide)).mono ?_⟩
  rintro _ u11 ⟨KB1, kb1, rfl, o11, e11, n11⟩
  refine ⟨_, _, _, rfl, (b6 u11 [49] (by decide)).mono ?_⟩
  rintro _ u12 ⟨VB1, vb1, rfl, o12, e12, _⟩
  refine ⟨_, _, _, rfl, (uInsert ((H10.ext e11).ext e12) (es := [([99], [99])]) (key := [98]) (val := [49]) (by decide) (by decide) (by decide) (by decide) ((o11.ext e12).imm fun k hk ht => by have := n11 k hk; have := H10.sto.lt k ht; omega) o12.imm0 kb1 vb1).mono ?_⟩
  rintro _ u13 ⟨rfl, T13, A13, D13, H13, _⟩
  replace H13 : Cu w0 u13 T13 s g A13 D13 [] (some [98]) (upF [(1, [([99], [99])])] 1 (insE [98] [49] [([99], [99])])) := H13
  rw [show upF [(1, [([99], [99])])] 1 (insE [98] [49] [([99], [99])]) = [(1, [([98], [49]), ([99], [99])])] by decide] at H13
  refine ⟨_, _, rfl, br (fun h => absurd h (by decide)) fun _ => brn (fun h => absurd rfl h) fun _ => (aT H13 (key := [98]) (v := [49]) (by decide) (by decide)).mono ?_⟩
  rintro _ u14 ⟨rfl, e14⟩
  have H14 := H13.ext e14
  refine ⟨_, rfl, brnb (fun h => by cases h) fun _ => (cValue H14.sto H14.cur).mono ?_⟩
  rintro r u15 ⟨e15, hr⟩
  have hX : atX (foD D13) 1 (some [98]) = some ([98], [49]) := by rw [H14.fo]; decide
  replace hr : match atX (foD D13) 1 (some [98]) with
    | none => ∃ c, r = .slice none 0 c
    | some (_, v) => ∃ A c, r = .slice A v.length c ∧ OwnB u15 A c v ∧ New u14 A := hr
  rw [hX] at hr
  obtain ⟨B15, d15, rfl, o15, _⟩ := hr
  have H15 := H14.ext e15
  refine ⟨_, _, _, rfl, _, _, to_str bt o15.imm0 d15, brnS (l := [49]) (l' := [49]) (fun h => absurd rfl h) fun _ => (uNext H15 (x := some ([99], [99])) (by decide)).mono ?_⟩
  rintro _ u16 ⟨rfl, H16⟩
  refine ⟨_, rfl, brnb (fun h => by cases h) fun _ => (aT H16 (key := [99]) (v := [99]) (by decide) (by decide)).mono ?_⟩
  rintro _ u17 ⟨rfl, e17⟩
  refine ⟨_, rfl, brnb (fun h => by cases h) fun _ => (uNext (H16.ext e17) (x := none) (by decide)).mono ?_⟩
  rintro _ u18 ⟨rfl, H18⟩
  refine ⟨_, rfl, br (fun h => by cases h) fun _ => (uNext H18 (x := none) rfl).mono ?_⟩
  rintro _ u19 ⟨rfl, H19⟩
  refine ⟨_, rfl, br (fun h => by cases h) fun _ => (cValid H19.sto H19.cur).mono ?_⟩
  rintro _ u20 ⟨rfl, e20⟩
  have x20 : Ext w u20 := f0.ext.trans' (H19.e.trans' e20)
  refine ⟨_, rfl, br (fun h => by cases h) fun _ => ?_⟩
  intro g1 w1 f1
  refine (store_spec (l := [[98]]) (fun i k hi => ?_) (by decide) (by decide)).mono ?_
  · match i, hi with
    | 0, hi => simp at hi; subst hi; exact ⟨_, rfl, f1.blk.cell rfl⟩
  rintro _ v1 ⟨s', g', T', A', D', rfl, G1⟩
  rw [show putsE [[98]] = [([98], [98])] by decide] at G1
  have x1 : Ext w w1 := x20.trans' f1.ext
  refine ⟨_, _, _, rfl, (aMark G1.sto).mono ?_⟩
  rintro _ v2 (⟨hge, _⟩ | ⟨_, rfl, T2, h2, c2⟩)
  · exact absurd (show 100 ≤ ([] : List (Ar × List Tr)).length from hge) (by decide)
  have G2 := G1.tch h2 c2 G1.fo G1.m
  refine ⟨_, _, rfl, (b6 v2 [98] (by decide)).mono ?_⟩
  rintro _ v3 ⟨KC, kd, rfl, p3, y3, _⟩
  have G3 := G2.ext y3
  refine ⟨_, _, _, rfl, (kDel G3.sto (id := 1) (es := [([98], [98])]) (by rw [G3.fo]; decide) [98] p3.imm0 kd).mono ?_⟩
  rintro _ v4 ⟨rfl, A4, D4, T4, h4, c4, s4, F4⟩
  have G4 := G3.tch h4 c4 (F' := [(1, [])]) (by rw [F4, G3.fo]; decide) (s4.most.trans G3.m)
  refine ⟨_, _, rfl, (b6 v4 [97] (by decide)).mono ?_⟩
  rintro _ v5 ⟨KD, ke, rfl, p5, y5, _⟩
  have G5 := G4.ext y5
  refine ⟨_, _, _, rfl, (kPut G5.sto (id := 1) (es := []) (by rw [G5.fo]; decide) (by rw [G5.fo, G5.m]; decide) (key := [97]) (val := []) (by decide) (by decide) p5.imm0 (Imm.nil KB NoB v5 none) ke 0).mono ?_⟩
  rintro _ v6 ⟨rfl, A6, D6, T6, h6, c6, s6, F6⟩
  have G6 := G5.tch h6 c6 (F' := [(1, [([97], [])])]) (by rw [F6, G5.fo]; decide) (s6.most.trans G5.m)
  refine ⟨_, _, rfl, br (fun _ => (uRewind G6 (x := some ([97], [])) (by decide)).mono ?_) fun h => by cases h⟩
  rintro _ v7 ⟨rfl, G7⟩
  refine ⟨_, rfl, br (fun _ => (aT G7 (key := [97]) (v := []) (by decide) (by decide)).mono ?_) fun h => by cases h⟩
  rintro _ v8 ⟨rfl, y8⟩
  have G8 := G7.ext y8
  refine ⟨_, rfl, br (fun _ => (aBack G8.sto 1).mono ?_) fun h => by cases h⟩
  rintro _ v9 (⟨hb, _⟩ | ⟨_, _, rfl, B, D9, T9, hm9, h9, c9⟩)
  · exact absurd hb (by show ¬ ((1 : Int) < 1 ∨ ((1 : Nat) : Int) < 1); decide)
  obtain ⟨rfl, rfl⟩ : A' = B ∧ D' = D9 := by have := Option.some.inj hm9; exact ⟨(Prod.mk.inj this).1, (Prod.mk.inj this).2⟩
  have G9 := G8.tch h9 c9 G1.fo G1.m
  refine ⟨_, rfl, brd (fun _ => (aN G9 (by decide)).mono ?_) fun h => absurd rfl h⟩
  rintro _ v10 ⟨rfl, y10⟩
  refine ⟨_, rfl, br (fun _ => (uNext (G9.ext y10) (x := some ([98], [98])) (by decide)).mono ?_) fun h => by cases h⟩
  rintro _ v11 ⟨rfl, G11⟩
  refine ⟨_, rfl, br (fun _ => (aT G11 (key := [98]) (v := [98]) (by decide) (by decide)).mono ?_) fun h => by cases h⟩
  rintro _ v12 ⟨rfl, y12⟩
  exact ⟨_, rfl, rfl, x1.trans' (G11.e.trans' y12)⟩
end Go.Proofs.YthfagbfllheneaaGreat
set_option linter.unusedVariables false
set_option maxRecDepth 100000
namespace Go.Proofs.YthfagbfllheneaaGreat
open Go Go.Sx
noncomputable def cardindexlaw06_CursorNumbers.W : World → (Value → World → Prop) → Prop := fun (w : World) (K : Value → World → Prop) => ∀ (g : Nat) (w' : World), Fresh w g w' [Value.string
 (ByteArray.mk #[(98 : UInt8)]), Value.string (ByteArray.mk #[(100 : UInt8)]), Value.string (ByteArray.mk #[(102 : UInt8)])] 9 → CallsV Tryz.prog 5 #[Value.slice (some (Addr.mk g 0 none))
 3 3] w' fun (v : Value) (w' : World) => ∃ (x x_1 : Option Addr) (x_2 : Bool), v = Value.tuple #[Value.pointer x, Value.pointer x_1, Value.bool x_2] ∧ bif !x_2 then K (Value.bool false) w' else ∀
 (g : Nat) (w'_1 : World), Fresh w' g w'_1 [Value.int IntKind.u8 (1 : Int), Value.string (ByteArray.mk #[(100 : UInt8)]), Value.string (ByteArray.mk #[(100 : UInt8)]), Value.int IntKind.u8 (2 : Int),
 Value.string (ByteArray.mk #[(100 : UInt8)]), Value.string (ByteArray.mk #[(102 : UInt8)]), Value.int IntKind.u8 (3 : Int), Value.string (ByteArray.mk #[(100 : UInt8)]), Value.string (ByteArray.mk
 #[(100 : UInt8)]), Value.int IntKind.u8 (4 : Int), Value.string (ByteArray.mk #[(100 : UInt8)]), Value.string (ByteArray.mk #[(98 : UInt8)]), Value.int IntKind.u8 (1 : Int), Value.string (ByteArray.mk
 #[(101 : UInt8)]), Value.string (ByteArray.mk #[(102 : UInt8)]), Value.int IntKind.u8 (2 : Int), Value.string (ByteArray.mk #[(101 : UInt8)]), Value.string (ByteArray.mk #[(102 : UInt8)]), Value.int
 IntKind.u8 (3 : Int), Value.string (ByteArray.mk #[(101 : UInt8)]), Value.string (ByteArray.mk #[(100 : UInt8)]), Value.int IntKind.u8 (4 : Int), Value.string (ByteArray.mk #[(101 : UInt8)]),
 Value.string (ByteArray.mk #[(100 : UInt8)]), Value.int IntKind.u8 (1 : Int), Value.string (ByteArray.mk #[(103 : UInt8)]), Value.string (ByteArray.mk #[]), Value.int IntKind.u8 (2 : Int), Value.string
 (ByteArray.mk #[(102 : UInt8)]), Value.string (ByteArray.mk #[]), Value.int IntKind.u8 (3 : Int), Value.string (ByteArray.mk #[(97 : UInt8)]), Value.string (ByteArray.mk #[]), Value.int IntKind.u8 (4 :
 Int), Value.string (ByteArray.mk #[(98 : UInt8)]), Value.string (ByteArray.mk #[]), Value.int IntKind.u8 (1 : Int), Value.string (ByteArray.mk #[]), Value.string (ByteArray.mk #[(98 : UInt8)]),
 Value.int IntKind.u8 (3 : Int), Value.string (ByteArray.mk #[]), Value.string (ByteArray.mk #[]), Value.int IntKind.u8 (0 : Int), Value.string (ByteArray.mk #[(100 : UInt8)]), Value.string
 (ByteArray.mk #[]), Value.int IntKind.u8 (5 : Int), Value.string (ByteArray.mk #[(100 : UInt8)]), Value.string (ByteArray.mk #[])] 27 → ∃ (I : Int → World → Prop) (μ : Int → World → Nat), I (0 : Int)
 w'_1 ∧ ∀ (x_3 : Int) (w : World), I x_3 w → bif decide (x_3 < (↑16 : Int)) then ∃ (ad : Addr), some (Addr.mk g 0 none) = some ad ∧ ((0 : Int) ≤ x_3 ∧ x_3 < (↑16 : Int)) ∧
 ∃ (x : Int), World.cell? w (Addr.add (Addr.add ad (Int.toNat x_3 * 3)) 0) = some (Value.int IntKind.u8 x) ∧ ∃ (x_4 : ByteArray), World.cell? w (Addr.add (Addr.add ad (Int.toNat x_3 * 3)) 1) =
 some (Value.string x_4) ∧ ∃ (x_5 : ByteArray), World.cell? w (Addr.add (Addr.add ad (Int.toNat x_3 * 3)) 2) = some (Value.string x_5) ∧ ∀ (g : Nat) (w' : World), Fresh w g w' [Value.int
 IntKind.u8 (0 : Int), Value.string (ByteArray.mk #[]), Value.string (ByteArray.mk #[])] 27 → stOK (Addr.mk g 0 none) 0 [Value.int IntKind.u8 x, Value.string x_4, Value.string x_5] w' ∧ ∀ (w'_2 :
 World), w'_2 = setAll (Addr.mk g 0 none) 0 [Value.int IntKind.u8 x, Value.string x_4, Value.string x_5] w' → ∃ (S : World → Prop), S (World.drew w'_2) ∧ ∃ (x : Int), (∀ (u : World), S u →
 World.cell? u (Addr.add (Addr.mk g 0 none) 0) = some (Value.int IntKind.u8 x)) ∧ ∃ (x_6 : ByteArray), (∀ (u : World), S u → World.cell? u (Addr.add (Addr.mk g 0 none) 1) =
 some (Value.string x_6)) ∧ ∃ (x_7 : ByteArray), (∀ (u : World), S u → World.cell? u (Addr.add (Addr.mk g 0 none) 2) = some (Value.string x_7)) ∧ CallsV Tryz.prog 7 #[Value.string
 x_6] (World.drew w'_2) fun (v : Value) (w' : World) => ∃ (x_8 : Option Addr) (x_9 x_10 : Nat), v = Value.slice x_8 x_9 x_10 ∧ S w' ∧ CallsV Tryz.prog 6 #[Value.pointer x_1, Value.int IntKind.u8 x,
 Value.slice x_8 x_9 x_10] w' fun (v : Value) (w' : World) => ∃ (x : Bool), v = Value.bool x ∧ S w' ∧ bif !decide (x = !ByteArray.toList x_7 == ByteArray.toList (ByteArray.mk #[])) then K
 (Value.bool (decide (x_3 < (0 : Int)))) w' else ∃ (S_1 : World → Prop), S_1 w' ∧ ∃ (x : ByteArray), (∀ (u : World), S_1 u → World.cell? u (Addr.add (Addr.mk g 0 none) 2) = some
 (Value.string x)) ∧ CallsV Tryz.prog 8 #[Value.pointer x_1, Value.string x] w' fun (v : Value) (w' : World) => ∃ (x : Bool), v = Value.bool x ∧ S w' ∧ bif !x then K (Value.bool (decide (x_3 <
 (0 : Int)))) w' else I (IntKind.wrap IntKind.i64 (x_3 + (1 : Int))) w' ∧ μ (IntKind.wrap IntKind.i64 (x_3 + (1 : Int))) w' < μ x_3 w else CallsV Tryz.prog 9 #[Value.pointer x_1] w fun (v : Value) (w' :
 World) => ∃ (x_4 : Bool), v = Value.bool x_4 ∧ bif x_4 then K (Value.bool false) w' else CallsV Tryz.prog 10 #[Value.pointer x_1] w' fun (v : Value) (w' : World) => ∃ (x_5 : Bool), v = Value.bool
 x_5 ∧ bif x_5 then K (Value.bool false) w' else CallsV Tryz.prog 11 #[Value.pointer x_1] w' fun (v : Value) (w' : World) => ∃ (x_6 : Int), v = Value.int IntKind.i64 x_6 ∧ bif !decide
 (x_6 = (70 : Int)) then K (Value.bool false) w' else CallsV Tryz.prog 12 #[Value.pointer x_1] w' fun (v : Value) (w' : World) => ∃ (x_7 : Bool), v = Value.bool x_7 ∧ bif !x_7 then K (Value.bool
 false) w' else CallsV Tryz.prog 8 #[Value.pointer x_1, Value.string (ByteArray.mk #[(102 : UInt8)])] w' fun (v : Value) (w' : World) => ∃ (x_8 : Bool), v = Value.bool x_8 ∧ bif !x_8 then K
 (Value.bool false) w' else CallsV Tryz.prog 9 #[Value.pointer x_1] w' fun (v : Value) (w' : World) => ∃ (x_9 : Bool), v = Value.bool x_9 ∧ bif x_9 then K (Value.bool false) w' else CallsV
 Tryz.prog 10 #[Value.pointer x_1] w' fun (v : Value) (w' : World) => ∃ (x_10 : Bool), v = Value.bool x_10 ∧ bif x_10 then K (Value.bool false) w' else CallsV Tryz.prog 13 #[Value.pointer x_1] w'
 fun (v : Value) (w' : World) => ∃ (x_11 : Bool), v = Value.bool x_11 ∧ bif !x_11 then K (Value.bool false) w' else CallsV Tryz.prog 8 #[Value.pointer x_1, Value.string (ByteArray.mk #[(98 :
 UInt8)])] w' fun (v : Value) (w' : World) => ∃ (x_12 : Bool), v = Value.bool x_12 ∧ bif !x_12 then K (Value.bool false) w' else CallsV Tryz.prog 10 #[Value.pointer x_1] w' fun (v : Value) (w' :
 World) => ∃ (x_13 : Bool), v = Value.bool x_13 ∧ bif x_13 then K (Value.bool false) w' else CallsV Tryz.prog 5 #[Value.slice none 0 0] w' fun (v : Value) (w' : World) => ∃ (x_14 x_15 :
 Option Addr) (x_16 : Bool), v = Value.tuple #[Value.pointer x_14, Value.pointer x_15, Value.bool x_16] ∧ CallsV Tryz.prog 14 #[Value.pointer none, Value.int IntKind.i64 (1 : Int)] w' fun (v :
 Value) (w' : World) => ∃ (x_17 : Option Addr) (x_18 : Int), v = Value.tuple #[Value.pointer x_17, Value.int IntKind.i64 x_18] ∧ ∀ (g : Nat) (w'_2 : World), Fresh w' g w'_2 [Value.pointer none,
 Value.slice none 0 0, Value.slice none 0 0] 42 → CallsV Tryz.prog 14 #[Value.pointer (some (Addr.mk g 0 none)), Value.int IntKind.i64 (1 : Int)] w'_2 fun (v : Value) (w' :
 World) => ∃ (x_19 : Option Addr) (x_20 : Int), v = Value.tuple #[Value.pointer x_19, Value.int IntKind.i64 x_20] ∧ CallsV Tryz.prog 14 #[Value.pointer x, Value.int IntKind.i64 (2 : Int)] w' fun (v :
 Value) (w' : World) => ∃ (x_21 : Option Addr) (x_22 : Int), v = Value.tuple #[Value.pointer x_21, Value.int IntKind.i64 x_22] ∧ bif !x_16 then K (Value.bool false) w' else CallsV Tryz.prog 13
 #[Value.pointer x_15] w' fun (v : Value) (w' : World) => ∃ (x_23 : Bool), v = Value.bool x_23 ∧ bif x_23 then K (Value.bool false) w' else CallsV Tryz.prog 12 #[Value.pointer x_15] w' fun (v :
 Value) (w' : World) => ∃ (x_24 : Bool), v = Value.bool x_24 ∧ bif x_24 then K (Value.bool false) w' else CallsV Tryz.prog 6 #[Value.pointer x_15, Value.int IntKind.u8 (1 : Int), Value.slice
 none 0 0] w' fun (v : Value) (w' : World) => ∃ (x_25 : Bool), v = Value.bool x_25 ∧ bif x_25 then K (Value.bool false) w' else CallsV Tryz.prog 7 #[Value.string (ByteArray.mk #[(120 :
 UInt8)])] w' fun (v : Value) (w' : World) => ∃ (x_26 : Option Addr) (x_27 x_28 : Nat), v = Value.slice x_26 x_27 x_28 ∧ CallsV Tryz.prog 6 #[Value.pointer x_15, Value.int IntKind.u8 (3 : Int),
 Value.slice x_26 x_27 x_28] w' fun (v : Value) (w' : World) => ∃ (x_29 : Bool), v = Value.bool x_29 ∧ bif x_29 then K (Value.bool false) w' else bif !decide (x_18 = (1 : Int)) then K
 (Value.bool false) w' else bif !decide (x_20 = (1 : Int)) then K (Value.bool false) w' else bif !decide (x_22 = (41 : Int)) then K (Value.bool false) w' else CallsV
 Tryz.prog 13 #[Value.pointer x_1] w' fun (v : Value) (w' : World) => ∃ (x_30 : Bool), v = Value.bool x_30 ∧ CallsV Tryz.prog 15 #[Value.pointer x, Value.int IntKind.i64 (1 : Int)] w' fun (v : Value)
 (w' : World) => ∃ (x : Int), v = Value.int IntKind.i64 x ∧ CallsV Tryz.prog 7 #[Value.string (ByteArray.mk #[(120 : UInt8)])] w' fun (v : Value) (w' : World) => ∃ (x_31 : Option Addr) (x_32 x_33 :
 Nat), v = Value.slice x_31 x_32 x_33 ∧ CallsV Tryz.prog 16 #[Value.pointer x_1, Value.slice x_31 x_32 x_33, Value.slice none 0 0] w' fun (v : Value) (w' : World) => ∃ (x_34 : Bool) (x_35 : Int),
 v = Value.tuple #[Value.bool x_34, Value.int IntKind.i64 x_35] ∧ bif decide (x = (0 : Int)) then CallsV Tryz.prog 17 #[Value.pointer x_1] w' fun (v : Value) (w' : World) => ∃ (x : Bool), v =
 Value.bool x ∧ bif !x then CallsV Tryz.prog 9 #[Value.pointer x_1] w' fun (v : Value) (w' : World) => ∃ (x : Bool), v = Value.bool x ∧ bif !x then CallsV Tryz.prog 13 #[Value.pointer x_1] w' fun (v :
 Value) (w' : World) => ∃ (x : Bool), v = Value.bool x ∧ bif !x then CallsV Tryz.prog 12 #[Value.pointer x_1] w' fun (v : Value) (w' : World) => ∃ (x : Bool), v = Value.bool x ∧ bif !x then CallsV
 Tryz.prog 10 #[Value.pointer x_1] w' fun (v : Value) (w' : World) => ∃ (x : Bool), v = Value.bool x ∧ bif !x then CallsV Tryz.prog 6 #[Value.pointer x_1, Value.int IntKind.u8 (1 : Int), Value.slice
 none 0 0] w' fun (v : Value) (w' : World) => ∃ (x : Bool), v = Value.bool x ∧ bif !x then bif decide (x_35 = (41 : Int)) then CallsV Tryz.prog 11 #[Value.pointer x_1] w' fun (v :
 Value) (w' : World) => ∃ (x : Int), v = Value.int IntKind.i64 x ∧ bif decide (x = (41 : Int)) then CallsV Tryz.prog 18 #[] w' fun (v : Value) (w' : World) => ∃ (x : Bool), v = Value.bool x ∧
 K (Value.bool x) w' else K (Value.bool false) w' else K (Value.bool false) w' else K (Value.bool false) w' else K (Value.bool false) w' else K (Value.bool false) w' else K
 (Value.bool false) w' else K (Value.bool false) w' else K (Value.bool false) w' else K (Value.bool false) w'
theorem cardindexlaw06_CursorNumbers.calls (ok : Okay Tryz.prog)  {w : World} {K : Value → World → Prop} (h : cardindexlaw06_CursorNumbers.W  w K) : CallsV Tryz.prog 3 #[] w K :=
  fnW_calls ok Tryz.func3 (an := (.named (.seq .auto (.seq .auto (.seq .auto (.seq (.seq .auto (.block (.loop [(44, .one (.int .i64))] .auto))) .auto)))))) (args := []) (Eq.mp (by kernel_rfl) h)
end Go.Proofs.YthfagbfllheneaaGreat
set_option linter.unusedVariables false
set_option linter.unusedSimpArgs false
namespace Go.Proofs.YthfagbfllheneaaGreat
open Go Go.Sx T4
section
variable {w u : World} {T : Nat → Prop} {s g : Nat} {A : Ar} {D : List Tr} {ms : List (Ar × List Tr)} {k : Option Key} {F : List (Int × Es)}
theorem uLast6 (H : Cu w u T s g A D ms k F) {x : Option (Key × Key)} (hx : (gF F 1).bind (fun es => es.getLast?) = x) : CallsV Tryz.prog 12 #[.pointer (some ⟨g, 0, none⟩)] u fun r u' => r = .bool x.isSome ∧ Cu w u' T s g A D ms (x.map fun p => p.1) F := by
  refine (cLast H.sto H.cur H.lt (.inr rfl) H.gT).mono ?_
  rintro r u' ⟨y, hy, hr, hc, f⟩
  have e : y = x := by rw [hy]; show (gF (foD D) 1).bind _ = x; rw [H.fo]; exact hx
  subst e
  exact ⟨hr, H.moved hc f⟩
theorem uDelete70 (H : Cu w u T s g A D ms k F) (hk : atX F 1 k = none) (hid : 1 ∈ idsD D) : CallsV Tryz.prog 11 #[.pointer (some ⟨g, 0, none⟩)] u fun r u' => r = .int .i64 70 ∧ Ext u u' := by
  refine (cDelete H.sto H.cur).mono ?_
  rintro r u' (⟨h1, _⟩ | ⟨_, _, hr, e⟩ | ⟨_, key', v', A', D', was, e, T', hk1, hat, _⟩)
  · exact absurd hid h1
  · exact ⟨hr, e⟩
  · rw [H.fo, hk] at hat; cases hat
theorem uDelete41 (H : Cu w u T s g A D ms k F) (hid : 1 ∉ idsD D) : CallsV Tryz.prog 11 #[.pointer (some ⟨g, 0, none⟩)] u fun r u' => r = .int .i64 41 ∧ Ext u u' := by
  refine (cDelete H.sto H.cur).mono ?_
  rintro r u' (⟨_, hr, e⟩ | ⟨h1, _⟩ | ⟨h1, _⟩)
  · exact ⟨hr, e⟩
  · exact absurd h1 hid
  · exact absurd h1 hid
end
def sq6 : List (Int × Key × Key) := [(1, [100], [100]), (2, [100], [102]), (3, [100], [100]), (4, [100], [98]), (1, [101], [102]), (2, [101], [102]), (3, [101], [100]), (4, [101], [100]), (1, [103], []), (2, [102], []), (3, [97], []), (4, [98], []), (1, [], [98]), (3, [], []), (0, [100], []), (5, [100], [])]
def F6n : List (Int × Es) := [(1, [([98], [98]), ([100], [100]), ([102], [102])])]
theorem sq6_ok : ∀ x ∈ sq6, (seekX F6n 1 x.1 x.2.1).map (fun p => p.1) = if x.2.2 = [] then none else some x.2.2 := by decide
theorem sq6_at : ∀ x ∈ sq6, x.2.2 ≠ [] → atX F6n 1 (some x.2.2) = some (x.2.2, x.2.2) := by decide
theorem sq6_len : ∀ x ∈ sq6, x.2.1.length ≤ 1 := by decide
def tb6 : List (Int × Key × Key) → List Value
  | [] => []
  | x :: l => .int .u8 x.1 :: .string ⟨x.2.1.toArray⟩ :: .string ⟨x.2.2.toArray⟩ :: tb6 l
theorem tb6_get : ∀ {l : List (Int × Key × Key)} {j : Nat} {x : Int × Key × Key}, l[j]? = some x → (tb6 l)[j * 3 + 0]? = some (.int .u8 x.1) ∧ (tb6 l)[j * 3 + 1]? = some (.string ⟨x.2.1.toArray⟩) ∧ (tb6 l)[j * 3 + 2]? = some (.string ⟨x.2.2.toArray⟩)
  | x :: l, 0, y, h => by simp at h; subst h; exact ⟨rfl, rfl, rfl⟩
  | x :: l, j + 1, y, h => by
    obtain ⟨h1, h2, h3⟩ := tb6_get (l := l) (j := j) (by simpa using h)
    have e : ∀ i, (j + 1) * 3 + i = (j * 3 + i) + 3 := fun i => by omega
    exact ⟨by rw [e]; exact h1, by rw [e]; exact h2, by rw [e]; exact h3⟩
/-! ## a store that New did not make -/
def NotS6 (w : World) (a : Option Addr) : Prop := a = none ∨ ∃ g, a = some ⟨g, 0, none⟩ ∧ Blk w g [.pointer none, .slice none 0 0, .slice none 0 0]
theorem mCheck6 {w : World} {a : Option Addr} (h : NotS6 w a) : CallsV Tryz.prog 51 #[.pointer a] w fun r w' => r = .int .i64 1 ∧ Ext w w' := by
  refine undo_Store_Check.calls okay ?_
  unfold undo_Store_Check.W
  refine CallsV.mono (K := fun r w' => r = .pointer none ∧ w' = w) ?_ ?_
  · refine undo_Store_of.calls okay ?_
    unfold undo_Store_of.W
    rcases h with rfl | ⟨g, rfl, hb⟩
    · exact br (fun _ => ⟨rfl, rfl⟩) (fun h => by cases h)
    · exact br (fun h => by cases h) (fun _ => ⟨_, rfl, _, hb.cell rfl, rfl, rfl⟩)
  · rintro _ _ ⟨rfl, rfl⟩
    refine ⟨_, rfl, (nCheck (.inl rfl)).mono ?_⟩
    rintro _ w' ⟨rfl, e⟩
    exact ⟨_, rfl, rfl, e⟩
theorem mNew6 {w : World} {a : Option Addr} (h : NotS6 w a) (id : Int) : CallsV Tryz.prog 14 #[.pointer a, .int .i64 id] w fun r w' => r = .tuple #[.pointer none, .int .i64 1] ∧ Ext w w' := by
  refine cursor_New.calls okay ?_
  unfold cursor_New.W
  refine (mCheck6 h).mono ?_
  rintro _ u1 ⟨rfl, e1⟩
  exact ⟨_, rfl, brd (fun _ => ⟨rfl, e1⟩) fun h => absurd rfl h⟩
section
variable {w u : World} {T : Nat → Prop} {s g : Nat} {A : Ar} {D : List Tr} {ms : List (Ar × List Tr)} {k : Option Key} {es : Es}
theorem uDrop6 (H : Cu w u T s g A D ms k [(1, es)]) : CallsV Tryz.prog 15 #[.pointer (some ⟨s, 0, none⟩), .int .i64 1] u fun r u' => r = .int .i64 0 ∧ ∃ T' A' D', Cu w u' T' s g A' D' ms k [] ∧ 1 ∉ idsD D' := by
  obtain ⟨A', D', e, rel, hP⟩ := aDrop (A := A) (D := D) H.sto.inv 1
  refine (hP H.sto).mono ?_
  rintro _ u' ⟨rfl, T', h', c⟩
  rcases rel.rel with ⟨h1, _⟩ | ⟨D1, d, D2, hD, hr, hD', rfl⟩
  · rw [H.fo] at h1; cases h1
  · have hF := H.fo
    rw [hD] at hF
    have hl : D1.length + (D2.length + 1) = 1 := by
      have := congrArg List.length hF
      simpa [foD] using this
    have h1 : D1 = [] := List.eq_nil_of_length_eq_zero (by omega)
    have h2 : D2 = [] := List.eq_nil_of_length_eq_zero (by omega)
    subst h1; subst h2
    obtain rfl : D' = [] := hD'
    exact ⟨rfl, T', A', [], H.tch h' c rfl (rel.same.most.trans H.m), by simp [idsD]⟩
theorem uInsert41 (H : Cu w u T s g A D ms k []) {key val : Key} (hk : key.length ≤ 1048576) (hv : val.length ≤ 1048576) {KA VA : Option Addr} (iK : Imm KB T u KA key) (iV : Imm KB NoB u VA val) (kc vc : Nat) : CallsV Tryz.prog 16 #[.pointer (some ⟨g, 0, none⟩), .slice KA key.length kc, .slice VA val.length vc] u fun r u' => r = .tuple #[.bool false, .int .i64 41] ∧ ∃ T', Cu w u' T' s g A D ms k [] := by
  obtain ⟨A', D', was, e, rel, hP⟩ := cInsert (A := A) (D := D) H.sto.inv 1 (key := key) (val := val) hk hv
  refine (hP H.sto H.cur H.gT rfl (fun k e => by have e : k = g := e; rw [e]; exact H.cur.lt) iK iV (fun _ h => h) kc vc).mono ?_
  rintro r u' ⟨hr, T', v, h', c, f, hc⟩
  rcases rel.rel with ⟨_, rfl, rfl, rfl, rfl⟩ | ⟨D1, d, D2, d', full, hD, _⟩
  · obtain ⟨e1, n1⟩ := c.keepExt H.e H.n
    have hb := H.cur
    obtain ⟨_, _, _, _, hb, _⟩ := hb
    exact ⟨hr, T', ⟨h', hc, (c.blk hb H.gT).2, e1.trans f (fun _ _ h => h) (fun k hk e => by have e : k = g := e; have := H.gw; omega), n1, H.gw, H.fo, H.m⟩⟩
  · have hF := H.fo
    rw [hD] at hF
    have := congrArg List.length hF
    simp [foD] at this
theorem uNone (H : Cu w u T s g A D ms k []) : (∀ k, atX [] 1 k = none) ∧ (∀ k, nextX [] 1 k = none) ∧ ∀ k, prevX [] 1 k = none :=
  ⟨fun k => by cases k <;> rfl, fun k => by cases k <;> rfl, fun k => by cases k <;> rfl⟩
end
set_option maxRecDepth 100000 in
set_option maxHeartbeats 1000000 in
theorem CursorNumbers_spec (w : World) : CallsV Tryz.prog 3 #[] w fun r w' => r = .bool true ∧ Ext w w' := by
  refine cardindexlaw06_CursorNumbers.calls okay ?_
  unfold cardindexlaw06_CursorNumbers.W
  intro g0 w0 f0
  refine (store_spec (l := [[98], [100], [102]]) (fun i k hi => ?_) (by decide) (by decide)).mono ?_
  · match i, hi with
    | 0, hi => simp at hi; subst hi; exact ⟨_, rfl, f0.blk.cell rfl⟩
    | 1, hi => simp at hi; subst hi; exact ⟨_, rfl, f0.blk.cell rfl⟩
    | 2, hi => simp at hi; subst hi; exact ⟨_, rfl, f0.blk.cell rfl⟩
  rintro _ u1 ⟨s, g, T, A, D, rfl, H1⟩
  rw [show [((1 : Int), putsE [[98], [100], [102]])] = F6n by decide] at H1
  refine ⟨_, _, _, rfl, brnb (fun h => by cases h) fun _ => ?_⟩
  intro gt w2 f2
  have hb2 : Blk w2 gt (tb6 sq6) := f2.blk
  have H2 := H1.ext f2.ext
  have hgt : gt ≠ g := fun e => by have := H1.cur.lt; have := f2.ge; omega
  clear H1 f2
  refine ⟨fun x u => ∃ (j : Nat) (k : Option Key), x = (j : Int) ∧ j ≤ 16 ∧ Cu w0 u T s g A D [] k F6n ∧ Blk u gt (tb6 sq6) ∧ (j = 16 → k = none), fun x _ => (16 - x).toNat, ⟨0, none, rfl, by omega, H2, hb2, fun _ => rfl⟩, ?_⟩
  clear H2 hb2
  rintro _ u ⟨j, k, rfl, hj, H, hb, hk⟩
  refine brd (fun hlt => ?_) (fun hge => ?_)
  · have hjl : j < sq6.length := by show j < 16; omega
    obtain ⟨x, hx⟩ : ∃ x, sq6[j]? = some x := ⟨_, List.getElem?_eq_getElem hjl⟩
    have hmem := List.mem_of_getElem? hx
    obtain ⟨c0, c1, c2⟩ := tb6_get hx
    have hlast : j + 1 = 16 → x.2.2 = [] := fun e => by
      obtain rfl : j = 15 := by omega
      have : sq6[15]? = some (5, [100], []) := rfl
      rw [this] at hx; cases hx; rfl
    have hok := sq6_ok x hmem
    have hat := sq6_at x hmem
    have hlen := sq6_len x hmem
    obtain ⟨how, key, want⟩ := x
    replace c0 : (tb6 sq6)[j * 3 + 0]? = some (.int .u8 how) := c0
    replace c1 : (tb6 sq6)[j * 3 + 1]? = some (.string ⟨key.toArray⟩) := c1
    replace c2 : (tb6 sq6)[j * 3 + 2]? = some (.string ⟨want.toArray⟩) := c2
    replace hok : (seekX F6n 1 how key).map (fun p => p.1) = if want = [] then none else some want := hok
    replace hat : want ≠ [] → atX F6n 1 (some want) = some (want, want) := hat
    replace hlen : key.length ≤ 1 := hlen
    replace hlast : j + 1 = 16 → want = [] := hlast
    refine ⟨_, rfl, ⟨by omega, by omega⟩, how, by rw [Int.toNat_natCast]; exact hb.cell' (by rw [Nat.zero_add]; exact c0), ⟨key.toArray⟩, by rw [Int.toNat_natCast]; exact hb.cell' (by rw [Nat.zero_add]; exact c1), ⟨want.toArray⟩, by rw [Int.toNat_natCast]; exact hb.cell' (by rw [Nat.zero_add]; exact c2), ?_⟩
    intro gl u1 f1
    obtain ⟨p1, p2⟩ : stOK ⟨gl, 0, none⟩ 0 [.int .u8 how, .string ⟨key.toArray⟩, .string ⟨want.toArray⟩] u1 ∧ ∀ w', w' = setAll ⟨gl, 0, none⟩ 0 [.int .u8 how, .string ⟨key.toArray⟩, .string ⟨want.toArray⟩] u1 → Blk w' gl [.int .u8 how, .string ⟨key.toArray⟩, .string ⟨want.toArray⟩] :=
      ⟨f1.blk.stOK (o := 0) [_, _, _] 0 (by simp), fun w' hw => by rw [hw]; exact Blk.setAll (o := 0) [.int .u8 how, .string ⟨key.toArray⟩, .string ⟨want.toArray⟩] 0 f1.blk⟩
    refine ⟨p1, fun u2 hu2 => ?_⟩
    have bl := p2 u2 hu2
    have e2 : Ext u u2 := by rw [hu2]; exact f1.ext.setAll f1.ge _ _
    have H2 := H.ext e2
    have hb2 := hb.ext e2
    have hlg : gl ≠ g := fun e => by have := H.cur.lt; have := f1.ge; omega
    have ed : Ext u2 u2.drew := Fr.drew NoB u2
    refine ⟨fun v => Blk v gl [.int .u8 how, .string ⟨key.toArray⟩, .string ⟨want.toArray⟩], bl.ext ed, how, fun v hv => hv.cell rfl, ⟨key.toArray⟩, fun v hv => hv.cell rfl, ⟨want.toArray⟩, fun v hv => hv.cell rfl, (b6 u2.drew key (by omega)).mono ?_⟩
    rintro _ u3 ⟨KA, kc, rfl, o3, e3, _⟩
    have e23 := ed.trans' e3
    refine ⟨_, _, _, rfl, bl.ext e23, (cSeek (H2.ext e23).sto (H2.ext e23).cur (H2.ext e23).lt (.inr rfl) o3.imm0 kc how).mono ?_⟩
    rintro r u4 ⟨hr, hc4, f4⟩
    have hfo : foD D = F6n := H.fo
    replace hr : r = .bool (seekX (foD D) 1 how key).isSome := hr
    replace hc4 : Cur (OC T fun k => k = g) u4 g s 1 ((seekX (foD D) 1 how key).map fun p => p.1) := hc4
    rw [hfo] at hr hc4
    rw [hok] at hc4
    have H4 := (H2.ext e23).moved hc4 f4
    have bl4 := (bl.ext e23).keep f4 hlg
    have hb4 := (hb2.ext e23).keep f4 hgt
    have hsome : (seekX F6n 1 how key).isSome = !decide (want = []) := by
      have h1 : (seekX F6n 1 how key).isSome = ((seekX F6n 1 how key).map (fun p => p.1)).isSome := by rw [Option.isSome_map]
      rw [h1, hok]
      by_cases h : want = [] <;> simp [h]
    subst hr
    have he : (ByteArray.toList ⟨want.toArray⟩ == ByteArray.toList (ByteArray.mk #[])) = decide (want = []) := eq_str want []
    have cell2 : ∀ v, Blk v gl [.int .u8 how, .string ⟨key.toArray⟩, .string ⟨want.toArray⟩] → v.cell? ((⟨gl, 0, none⟩ : Addr).add 2) = some (.string ⟨want.toArray⟩) := fun v hv => hv.cell rfl
    have hwi : IntKind.i64.wrap ((j : Int) + 1) = ((j + 1 : Nat) : Int) := by rw [wi _ (by omega) (by omega)]; omega
    refine ⟨_, rfl, bl4, brn (fun h => absurd (by rw [hsome, he]) h) fun _ => ⟨fun v => Blk v gl [.int .u8 how, .string ⟨key.toArray⟩, .string ⟨want.toArray⟩], bl4, _, cell2, ?_⟩⟩
    by_cases hw : want = []
    · subst hw
      rw [if_pos rfl] at H4
      refine (aN H4 rfl).mono ?_
      rintro _ u5 ⟨rfl, e5⟩
      rw [hwi]
      exact ⟨_, rfl, bl4.ext e5, brnb (fun h => by cases h) fun _ => ⟨⟨j + 1, none, rfl, by omega, H4.ext e5, hb4.ext e5, fun _ => rfl⟩, by dsimp only; omega⟩⟩
    · rw [if_neg hw] at H4
      refine (aT H4 (hat hw) hw).mono ?_
      rintro _ u5 ⟨rfl, e5⟩
      rw [hwi]
      exact ⟨_, rfl, bl4.ext e5, brnb (fun h => by cases h) fun _ => ⟨⟨j + 1, some want, rfl, by omega, H4.ext e5, hb4.ext e5, fun e => absurd (hlast e) hw⟩, by dsimp only; omega⟩⟩
  · obtain rfl : j = 16 := by omega
    obtain rfl : k = none := hk rfl
    clear hk hb hj hge
    have hids : ∀ {u : World} {T : Nat → Prop} {A : Ar} {D : List Tr} {k : Option Key}, Cu w0 u T s g A D [] k F6n → (1 : Int) ∈ idsD D := fun H => by rw [cuIds H]; decide
    refine (uNext H (x := none) rfl).mono ?_
    rintro _ u1 ⟨rfl, H1⟩
    refine ⟨_, rfl, br (fun h => by cases h) fun _ => (uPrev H1 (x := none) rfl).mono ?_⟩
    rintro _ u2 ⟨rfl, H2⟩
    refine ⟨_, rfl, br (fun h => by cases h) fun _ => (uDelete70 H2 rfl (hids H2)).mono ?_⟩
    rintro _ u3 ⟨rfl, e3⟩
    refine ⟨_, rfl, brn (fun h => absurd rfl h) fun _ => (uLast6 (H2.ext e3) (x := some ([102], [102])) (by decide)).mono ?_⟩
    rintro _ u4 ⟨rfl, H4⟩
    refine ⟨_, rfl, brnb (fun h => by cases h) fun _ => (aT H4 (key := [102]) (v := [102]) (by decide) (by decide)).mono ?_⟩
    rintro _ u5 ⟨rfl, e5⟩
    refine ⟨_, rfl, brnb (fun h => by cases h) fun _ => (uNext (H4.ext e5) (x := none) (by decide)).mono ?_⟩
    rintro _ u6 ⟨rfl, H6⟩
    refine ⟨_, rfl, br (fun h => by cases h) fun _ => (uPrev H6 (x := none) rfl).mono ?_⟩
    rintro _ u7 ⟨rfl, H7⟩
    refine ⟨_, rfl, br (fun h => by cases h) fun _ => (uRewind H7 (x := some ([98], [98])) (by decide)).mono ?_⟩
    rintro _ u8 ⟨rfl, H8⟩
    refine ⟨_, rfl, brnb (fun h => by cases h) fun _ => (aT H8 (key := [98]) (v := [98]) (by decide) (by decide)).mono ?_⟩
    rintro _ u9 ⟨rfl, e9⟩
    refine ⟨_, rfl, brnb (fun h => by cases h) fun _ => (uPrev (H8.ext e9) (x := none) (by decide)).mono ?_⟩
    rintro _ u10 ⟨rfl, H10⟩
    refine ⟨_, rfl, br (fun h => by cases h) fun _ => (store_spec (B := none) (c := 0) (l := []) (fun i k hi => by simp at hi) (by decide) (by decide)).mono ?_⟩
    rintro _ u11 ⟨s', g', T', A', D', rfl, G11⟩
    rw [show [((1 : Int), putsE [])] = [(1, [])] by decide] at G11
    have H11 := H10.ext G11.e
    refine ⟨_, _, _, rfl, (mNew6 (.inl rfl) 1).mono ?_⟩
    rintro _ u12 ⟨rfl, e12⟩
    refine ⟨_, _, rfl, ?_⟩
    intro gz u13 f13
    refine (mNew6 (.inr ⟨gz, rfl, f13.blk⟩) 1).mono ?_
    rintro _ u14 ⟨rfl, e14⟩
    have e114 := (e12.trans' f13.ext).trans' e14
    have H14 := H11.ext e114
    have G14 := G11.ext e114
    refine ⟨_, _, rfl, (cNew H14.sto 2).mono ?_⟩
    rintro r u15 ⟨e15, ⟨h2, _⟩ | ⟨_, rfl⟩⟩
    · have h2 : (2 : Int) ∈ idsD D := h2
      rw [cuIds H14] at h2
      exact absurd h2 (by decide)
    have H15 := H14.ext e15
    refine ⟨_, _, rfl, brnb (fun h => by cases h) fun _ => (uRewind (G14.ext e15) (x := none) (by decide)).mono ?_⟩
    rintro _ u16 ⟨rfl, G16⟩
    refine ⟨_, rfl, br (fun h => by cases h) fun _ => (uLast6 G16 (x := none) (by decide)).mono ?_⟩
    rintro _ u17 ⟨rfl, G17⟩
    refine ⟨_, rfl, br (fun h => by cases h) fun _ => (uSeek G17 (x := none) (how := 1) (key := []) (by decide) (Imm.nil KB NoB u17 none) 0).mono ?_⟩
    rintro _ u18 ⟨rfl, G18⟩
    refine ⟨_, rfl, br (fun h => by cases h) fun _ => (b6 u18 [120] (by decide)).mono ?_⟩
    rintro _ u19 ⟨KA, kc, rfl, o19, e19, _⟩
    refine ⟨_, _, _, rfl, (uSeek (G18.ext e19) (x := none) (how := 3) (key := [120]) (by decide) o19.imm0 kc).mono ?_⟩
    rintro _ u20 ⟨rfl, G20⟩
    have H20 := H10.ext G20.e
    clear G16 G17 G18 G20 H14 H15 H11 G11 G14
    refine ⟨_, rfl, br (fun h => by cases h) fun _ => brn (fun h => absurd rfl h) fun _ => brn (fun h => absurd rfl h) fun _ => brn (fun h => absurd rfl h) fun _ => (uRewind H20 (x := some ([98], [98])) (by decide)).mono ?_⟩
    rintro _ u21 ⟨rfl, H21⟩
    refine ⟨_, rfl, (uDrop6 (es := [([98], [98]), ([100], [100]), ([102], [102])]) H21).mono ?_⟩
    rintro _ u22 ⟨rfl, T22, A22, D22, H22, hno⟩
    refine ⟨_, rfl, (b6 u22 [120] (by decide)).mono ?_⟩
    rintro _ u23 ⟨KB1, kb, rfl, o23, e23, n23⟩
    have hlt22 := H22.sto.lt
    refine ⟨_, _, _, rfl, (uInsert41 (H22.ext e23) (key := [120]) (val := []) (by decide) (by decide) (o23.imm fun k hk ht => by have := n23 k hk; have := hlt22 k ht; omega) (Imm.nil KB NoB u23 none) kb 0).mono ?_⟩
    rintro _ u24 ⟨rfl, T24, H24⟩
    obtain ⟨hat, hnext, hprev⟩ := uNone H24
    refine ⟨_, _, rfl, brd (fun _ => (cValid H24.sto H24.cur).mono ?_) fun h => absurd rfl h⟩
    rintro _ u25 ⟨rfl, e25⟩
    have hv : (atX (foD D22) 1 (some [98])).isSome = false := by rw [H24.fo]; rfl
    refine ⟨_, rfl, brnb (fun _ => (uNext (H24.ext e25) (x := none) (hnext _)).mono ?_) fun h => absurd (show (atX (foD D22) 1 (some [98])).isSome = true from h) (by rw [hv]; decide)⟩
    rintro _ u26 ⟨rfl, H26⟩
    refine ⟨_, rfl, brnb (fun _ => (uRewind H26 (x := none) rfl).mono ?_) fun h => by cases h⟩
    rintro _ u27 ⟨rfl, H27⟩
    refine ⟨_, rfl, brnb (fun _ => (uLast6 H27 (x := none) rfl).mono ?_) fun h => by cases h⟩
    rintro _ u28 ⟨rfl, H28⟩
    refine ⟨_, rfl, brnb (fun _ => (uPrev H28 (x := none) rfl).mono ?_) fun h => by cases h⟩
    rintro _ u29 ⟨rfl, H29⟩
    refine ⟨_, rfl, brnb (fun _ => (uSeek H29 (x := none) (how := 1) (key := []) (by decide) (Imm.nil KB NoB u29 none) 0).mono ?_) fun h => by cases h⟩
    rintro _ u30 ⟨rfl, H30⟩
    refine ⟨_, rfl, brnb (fun _ => brd (fun _ => (uDelete41 H30 hno).mono ?_) fun h => absurd rfl h) fun h => by cases h⟩
    rintro _ u31 ⟨rfl, e31⟩
    refine ⟨_, rfl, brd (fun _ => (awake6_spec u31).mono ?_) fun h => absurd rfl h⟩
    rintro _ u32 ⟨rfl, e32⟩
    exact ⟨_, rfl, rfl, (f0.ext.trans' (H30.e.trans' e31)).trans' e32⟩
end Go.Proofs.YthfagbfllheneaaGreat
