/- The preconditions of Go functions, printed by a program of this workplace (nests.py); each is proved to be the engine's own. -/
import Derived.Test.YtakmlaliglmnmaaProg
import Derived.Test.YtakmlaliglmnmaaSxWp
set_option linter.unusedVariables false
set_option maxRecDepth 100000
namespace Go.Proofs.Ytakmlaliglmnmaa
open Go Go.Sx
noncomputable def internal_bytealg_CompareString.W : ByteArray → ByteArray → World → (Value → World → Prop) → Prop := fun (a b : ByteArray) (w : Go.World) (K : Go.Value → Go.World → Prop) => ∃ (x :
 Int), ∃ (w' : Go.World), Go.Sx.RunsTo Go.Proofs.Try.prog (Go.callFunc (94 : Nat) #[Go.Value.string a, Go.Value.string b]) w (Go.Next.value (Go.Value.int Go.IntKind.i64 x)) w' ∧ K (Go.Value.int
 Go.IntKind.i64 x) w'
theorem internal_bytealg_CompareString.eq (a : ByteArray) (b : ByteArray) (w : World) (K : Value → World → Prop) : internal_bytealg_CompareString.W a b w K = fnW Try.prog Try.f90 .auto [.string a, .string b] w K := by kernel_rfl
theorem internal_bytealg_CompareString.calls (ok : Okay Try.prog) {a : ByteArray} {b : ByteArray} {w : World} {K : Value → World → Prop} (h : internal_bytealg_CompareString.W a b w K) : CallsV Try.prog 90 #[.string a, .string b] w K :=
  fnW_calls ok Try.func90 (an := .auto) (args := [.string a, .string b]) (by rw [← internal_bytealg_CompareString.eq]; exact h)
noncomputable def value_Compare.W : Int → Int → ByteArray → Int → Int → ByteArray → World → (Value → World → Prop) → Prop := fun (a0 a1 : Int) (a2 : ByteArray) (b0 b1 : Int) (b2 : ByteArray) (w :
 Go.World) (K : Go.Value → Go.World → Prop) => ∃ (x : Int), Go.World.cell? (Go.World.alloc (Go.World.alloc w (Go.Obj.cells #[Go.Value.int Go.IntKind.u8 a0, Go.Value.int Go.IntKind.i64 a1,
 Go.Value.string a2] (31 : Nat))) (Go.Obj.cells #[Go.Value.int Go.IntKind.u8 b0, Go.Value.int Go.IntKind.i64 b1, Go.Value.string b2] (31 : Nat))) (Go.Addr.add (Go.Addr.mk (Array.size (Go.World.heap w))
 (0 : Nat) Option.none) (0 : Nat)) = Option.some (Go.Value.int Go.IntKind.u8 x) ∧ ∃ (x_1 : Int), Go.World.cell? (Go.World.alloc (Go.World.alloc w (Go.Obj.cells #[Go.Value.int Go.IntKind.u8 a0,
 Go.Value.int Go.IntKind.i64 a1, Go.Value.string a2] (31 : Nat))) (Go.Obj.cells #[Go.Value.int Go.IntKind.u8 b0, Go.Value.int Go.IntKind.i64 b1, Go.Value.string b2] (31 : Nat))) (Go.Addr.add (Go.Addr.mk
 (Array.size (Go.World.heap (Go.World.alloc w (Go.Obj.cells #[Go.Value.int Go.IntKind.u8 a0, Go.Value.int Go.IntKind.i64 a1, Go.Value.string a2] (31 : Nat))))) (0 : Nat) Option.none) (0 : Nat)) =
 Option.some (Go.Value.int Go.IntKind.u8 x_1) ∧ bif !Decidable.decide (x = x_1) then ∃ (x : Int), Go.World.cell? (Go.World.alloc (Go.World.alloc w (Go.Obj.cells #[Go.Value.int Go.IntKind.u8 a0,
 Go.Value.int Go.IntKind.i64 a1, Go.Value.string a2] (31 : Nat))) (Go.Obj.cells #[Go.Value.int Go.IntKind.u8 b0, Go.Value.int Go.IntKind.i64 b1, Go.Value.string b2] (31 : Nat))) (Go.Addr.add (Go.Addr.mk
 (Array.size (Go.World.heap w)) (0 : Nat) Option.none) (0 : Nat)) = Option.some (Go.Value.int Go.IntKind.u8 x) ∧ ∃ (x_2 : Int), Go.World.cell? (Go.World.alloc (Go.World.alloc w (Go.Obj.cells
 #[Go.Value.int Go.IntKind.u8 a0, Go.Value.int Go.IntKind.i64 a1, Go.Value.string a2] (31 : Nat))) (Go.Obj.cells #[Go.Value.int Go.IntKind.u8 b0, Go.Value.int Go.IntKind.i64 b1, Go.Value.string b2] (31
 : Nat))) (Go.Addr.add (Go.Addr.mk (Array.size (Go.World.heap (Go.World.alloc w (Go.Obj.cells #[Go.Value.int Go.IntKind.u8 a0, Go.Value.int Go.IntKind.i64 a1, Go.Value.string a2] (31 : Nat))))) (0 :
 Nat) Option.none) (0 : Nat)) = Option.some (Go.Value.int Go.IntKind.u8 x_2) ∧ Go.Sx.CallsV Go.Proofs.Try.prog (73 : Nat) #[Go.Value.int Go.IntKind.u8 x, Go.Value.int Go.IntKind.u8 x_2] (Go.World.alloc
 (Go.World.alloc w (Go.Obj.cells #[Go.Value.int Go.IntKind.u8 a0, Go.Value.int Go.IntKind.i64 a1, Go.Value.string a2] (31 : Nat))) (Go.Obj.cells #[Go.Value.int Go.IntKind.u8 b0, Go.Value.int
 Go.IntKind.i64 b1, Go.Value.string b2] (31 : Nat))) fun (v : Go.Value) (w' : Go.World) => ∃ (x : Int), v = Go.Value.int Go.IntKind.i64 x ∧ K (Go.Value.int Go.IntKind.i64 x) w' else ∃ (x : Int),
 Go.World.cell? (Go.World.alloc (Go.World.alloc w (Go.Obj.cells #[Go.Value.int Go.IntKind.u8 a0, Go.Value.int Go.IntKind.i64 a1, Go.Value.string a2] (31 : Nat))) (Go.Obj.cells #[Go.Value.int
 Go.IntKind.u8 b0, Go.Value.int Go.IntKind.i64 b1, Go.Value.string b2] (31 : Nat))) (Go.Addr.add (Go.Addr.mk (Array.size (Go.World.heap w)) (0 : Nat) Option.none) (0 : Nat)) = Option.some (Go.Value.int
 Go.IntKind.u8 x) ∧ bif Decidable.decide (x = (1 : Int)) then ∃ (x : Int), Go.World.cell? (Go.World.alloc (Go.World.alloc w (Go.Obj.cells #[Go.Value.int Go.IntKind.u8 a0, Go.Value.int Go.IntKind.i64 a1,
 Go.Value.string a2] (31 : Nat))) (Go.Obj.cells #[Go.Value.int Go.IntKind.u8 b0, Go.Value.int Go.IntKind.i64 b1, Go.Value.string b2] (31 : Nat))) (Go.Addr.add (Go.Addr.mk (Array.size (Go.World.heap w))
 (0 : Nat) Option.none) (1 : Nat)) = Option.some (Go.Value.int Go.IntKind.i64 x) ∧ ∃ (x_2 : Int), Go.World.cell? (Go.World.alloc (Go.World.alloc w (Go.Obj.cells #[Go.Value.int Go.IntKind.u8 a0,
 Go.Value.int Go.IntKind.i64 a1, Go.Value.string a2] (31 : Nat))) (Go.Obj.cells #[Go.Value.int Go.IntKind.u8 b0, Go.Value.int Go.IntKind.i64 b1, Go.Value.string b2] (31 : Nat))) (Go.Addr.add (Go.Addr.mk
 (Array.size (Go.World.heap (Go.World.alloc w (Go.Obj.cells #[Go.Value.int Go.IntKind.u8 a0, Go.Value.int Go.IntKind.i64 a1, Go.Value.string a2] (31 : Nat))))) (0 : Nat) Option.none) (1 : Nat)) =
 Option.some (Go.Value.int Go.IntKind.i64 x_2) ∧ Go.Sx.CallsV Go.Proofs.Try.prog (74 : Nat) #[Go.Value.int Go.IntKind.i64 x, Go.Value.int Go.IntKind.i64 x_2] (Go.World.alloc (Go.World.alloc w
 (Go.Obj.cells #[Go.Value.int Go.IntKind.u8 a0, Go.Value.int Go.IntKind.i64 a1, Go.Value.string a2] (31 : Nat))) (Go.Obj.cells #[Go.Value.int Go.IntKind.u8 b0, Go.Value.int Go.IntKind.i64 b1,
 Go.Value.string b2] (31 : Nat))) fun (v : Go.Value) (w' : Go.World) => ∃ (x : Int), v = Go.Value.int Go.IntKind.i64 x ∧ K (Go.Value.int Go.IntKind.i64 x) w' else ∃ (x : Int), Go.World.cell?
 (Go.World.alloc (Go.World.alloc w (Go.Obj.cells #[Go.Value.int Go.IntKind.u8 a0, Go.Value.int Go.IntKind.i64 a1, Go.Value.string a2] (31 : Nat))) (Go.Obj.cells #[Go.Value.int Go.IntKind.u8 b0,
 Go.Value.int Go.IntKind.i64 b1, Go.Value.string b2] (31 : Nat))) (Go.Addr.add (Go.Addr.mk (Array.size (Go.World.heap w)) (0 : Nat) Option.none) (0 : Nat)) = Option.some (Go.Value.int Go.IntKind.u8 x) ∧
 bif Decidable.decide (x = (2 : Int)) then ∃ (x : ByteArray), Go.World.cell? (Go.World.alloc (Go.World.alloc w (Go.Obj.cells #[Go.Value.int Go.IntKind.u8 a0, Go.Value.int Go.IntKind.i64 a1,
 Go.Value.string a2] (31 : Nat))) (Go.Obj.cells #[Go.Value.int Go.IntKind.u8 b0, Go.Value.int Go.IntKind.i64 b1, Go.Value.string b2] (31 : Nat))) (Go.Addr.add (Go.Addr.mk (Array.size (Go.World.heap w))
 (0 : Nat) Option.none) (2 : Nat)) = Option.some (Go.Value.string x) ∧ ∃ (x_2 : ByteArray), Go.World.cell? (Go.World.alloc (Go.World.alloc w (Go.Obj.cells #[Go.Value.int Go.IntKind.u8 a0, Go.Value.int
 Go.IntKind.i64 a1, Go.Value.string a2] (31 : Nat))) (Go.Obj.cells #[Go.Value.int Go.IntKind.u8 b0, Go.Value.int Go.IntKind.i64 b1, Go.Value.string b2] (31 : Nat))) (Go.Addr.add (Go.Addr.mk (Array.size
 (Go.World.heap (Go.World.alloc w (Go.Obj.cells #[Go.Value.int Go.IntKind.u8 a0, Go.Value.int Go.IntKind.i64 a1, Go.Value.string a2] (31 : Nat))))) (0 : Nat) Option.none) (2 : Nat)) = Option.some
 (Go.Value.string x_2) ∧ Go.Sx.CallsV Go.Proofs.Try.prog (75 : Nat) #[Go.Value.string x, Go.Value.string x_2] (Go.World.alloc (Go.World.alloc w (Go.Obj.cells #[Go.Value.int Go.IntKind.u8 a0,
 Go.Value.int Go.IntKind.i64 a1, Go.Value.string a2] (31 : Nat))) (Go.Obj.cells #[Go.Value.int Go.IntKind.u8 b0, Go.Value.int Go.IntKind.i64 b1, Go.Value.string b2] (31 : Nat))) fun (v : Go.Value) (w' :
 Go.World) => ∃ (x : Int), v = Go.Value.int Go.IntKind.i64 x ∧ K (Go.Value.int Go.IntKind.i64 x) w' else ∃ (x : Int), Go.World.cell? (Go.World.alloc (Go.World.alloc w (Go.Obj.cells #[Go.Value.int
 Go.IntKind.u8 a0, Go.Value.int Go.IntKind.i64 a1, Go.Value.string a2] (31 : Nat))) (Go.Obj.cells #[Go.Value.int Go.IntKind.u8 b0, Go.Value.int Go.IntKind.i64 b1, Go.Value.string b2] (31 : Nat)))
 (Go.Addr.add (Go.Addr.mk (Array.size (Go.World.heap w)) (0 : Nat) Option.none) (0 : Nat)) = Option.some (Go.Value.int Go.IntKind.u8 x) ∧ bif Decidable.decide (x = (3 : Int)) then ∃ (x : ByteArray),
 Go.World.cell? (Go.World.alloc (Go.World.alloc w (Go.Obj.cells #[Go.Value.int Go.IntKind.u8 a0, Go.Value.int Go.IntKind.i64 a1, Go.Value.string a2] (31 : Nat))) (Go.Obj.cells #[Go.Value.int
 Go.IntKind.u8 b0, Go.Value.int Go.IntKind.i64 b1, Go.Value.string b2] (31 : Nat))) (Go.Addr.add (Go.Addr.mk (Array.size (Go.World.heap w)) (0 : Nat) Option.none) (2 : Nat)) = Option.some
 (Go.Value.string x) ∧ ∃ (x_2 : ByteArray), Go.World.cell? (Go.World.alloc (Go.World.alloc w (Go.Obj.cells #[Go.Value.int Go.IntKind.u8 a0, Go.Value.int Go.IntKind.i64 a1, Go.Value.string a2] (31 :
 Nat))) (Go.Obj.cells #[Go.Value.int Go.IntKind.u8 b0, Go.Value.int Go.IntKind.i64 b1, Go.Value.string b2] (31 : Nat))) (Go.Addr.add (Go.Addr.mk (Array.size (Go.World.heap (Go.World.alloc w
 (Go.Obj.cells #[Go.Value.int Go.IntKind.u8 a0, Go.Value.int Go.IntKind.i64 a1, Go.Value.string a2] (31 : Nat))))) (0 : Nat) Option.none) (2 : Nat)) = Option.some (Go.Value.string x_2) ∧ Go.Sx.CallsV
 Go.Proofs.Try.prog (75 : Nat) #[Go.Value.string x, Go.Value.string x_2] (Go.World.alloc (Go.World.alloc w (Go.Obj.cells #[Go.Value.int Go.IntKind.u8 a0, Go.Value.int Go.IntKind.i64 a1, Go.Value.string
 a2] (31 : Nat))) (Go.Obj.cells #[Go.Value.int Go.IntKind.u8 b0, Go.Value.int Go.IntKind.i64 b1, Go.Value.string b2] (31 : Nat))) fun (v : Go.Value) (w' : Go.World) => ∃ (x : Int), v = Go.Value.int
 Go.IntKind.i64 x ∧ K (Go.Value.int Go.IntKind.i64 x) w' else K (Go.Value.int Go.IntKind.i64 (0 : Int)) (Go.World.alloc (Go.World.alloc w (Go.Obj.cells #[Go.Value.int Go.IntKind.u8 a0, Go.Value.int
 Go.IntKind.i64 a1, Go.Value.string a2] (31 : Nat))) (Go.Obj.cells #[Go.Value.int Go.IntKind.u8 b0, Go.Value.int Go.IntKind.i64 b1, Go.Value.string b2] (31 : Nat)))
theorem value_Compare.eq (a0 : Int) (a1 : Int) (a2 : ByteArray) (b0 : Int) (b1 : Int) (b2 : ByteArray) (w : World) (K : Value → World → Prop) : value_Compare.W a0 a1 a2 b0 b1 b2 w K = fnW Try.prog Try.f48 .auto [.agg #[.int .u8 a0, .int .i64 a1, .string a2], .agg #[.int .u8 b0, .int .i64 b1, .string b2]] w K := by kernel_rfl
theorem value_Compare.calls (ok : Okay Try.prog) {a0 : Int} {a1 : Int} {a2 : ByteArray} {b0 : Int} {b1 : Int} {b2 : ByteArray} {w : World} {K : Value → World → Prop} (h : value_Compare.W a0 a1 a2 b0 b1 b2 w K) : CallsV Try.prog 48 #[.agg #[.int .u8 a0, .int .i64 a1, .string a2], .agg #[.int .u8 b0, .int .i64 b1, .string b2]] w K :=
  fnW_calls ok Try.func48 (an := .auto) (args := [.agg #[.int .u8 a0, .int .i64 a1, .string a2], .agg #[.int .u8 b0, .int .i64 b1, .string b2]]) (by rw [← value_Compare.eq]; exact h)
noncomputable def strings_Compare.W : ByteArray → ByteArray → World → (Value → World → Prop) → Prop := fun (a b : ByteArray) (w : Go.World) (K : Go.Value → Go.World → Prop) => Go.Sx.CallsV
 Go.Proofs.Try.prog (90 : Nat) #[Go.Value.string a, Go.Value.string b] w fun (v : Go.Value) (w' : Go.World) => ∃ (x : Int), v = Go.Value.int Go.IntKind.i64 x ∧ K (Go.Value.int Go.IntKind.i64 x) w'
theorem strings_Compare.eq (a : ByteArray) (b : ByteArray) (w : World) (K : Value → World → Prop) : strings_Compare.W a b w K = fnW Try.prog Try.f75 .auto [.string a, .string b] w K := by kernel_rfl
theorem strings_Compare.calls (ok : Okay Try.prog) {a : ByteArray} {b : ByteArray} {w : World} {K : Value → World → Prop} (h : strings_Compare.W a b w K) : CallsV Try.prog 75 #[.string a, .string b] w K :=
  fnW_calls ok Try.func75 (an := .auto) (args := [.string a, .string b]) (by rw [← strings_Compare.eq]; exact h)
noncomputable def cmp_Compare_api_Kind.W : Int → Int → World → (Value → World → Prop) → Prop := fun (x y : Int) (w : Go.World) (K : Go.Value → Go.World → Prop) => Go.Sx.CallsV Go.Proofs.Try.prog (88 :
 Nat) #[Go.Value.int Go.IntKind.u8 x] w fun (v : Go.Value) (w' : Go.World) => ∃ (x_1 : Bool), v = Go.Value.bool x_1 ∧ Go.Sx.CallsV Go.Proofs.Try.prog (88 : Nat) #[Go.Value.int Go.IntKind.u8 y] w' fun (v
 : Go.Value) (w' : Go.World) => ∃ (x_2 : Bool), v = Go.Value.bool x_2 ∧ bif x_1 then bif x_2 then K (Go.Value.int Go.IntKind.i64 (0 : Int)) w' else K (Go.Value.int Go.IntKind.i64 (-1 : Int)) w' else bif
 x_2 then K (Go.Value.int Go.IntKind.i64 (1 : Int)) w' else bif Decidable.decide (x < y) then K (Go.Value.int Go.IntKind.i64 (-1 : Int)) w' else bif Decidable.decide (y < x) then K (Go.Value.int
 Go.IntKind.i64 (1 : Int)) w' else K (Go.Value.int Go.IntKind.i64 (0 : Int)) w'
theorem cmp_Compare_api_Kind.eq (x : Int) (y : Int) (w : World) (K : Value → World → Prop) : cmp_Compare_api_Kind.W x y w K = fnW Try.prog Try.f73 .auto [.int .u8 x, .int .u8 y] w K := by kernel_rfl
theorem cmp_Compare_api_Kind.calls (ok : Okay Try.prog) {x : Int} {y : Int} {w : World} {K : Value → World → Prop} (h : cmp_Compare_api_Kind.W x y w K) : CallsV Try.prog 73 #[.int .u8 x, .int .u8 y] w K :=
  fnW_calls ok Try.func73 (an := .auto) (args := [.int .u8 x, .int .u8 y]) (by rw [← cmp_Compare_api_Kind.eq]; exact h)
noncomputable def cmp_Compare_int64.W : Int → Int → World → (Value → World → Prop) → Prop := fun (x y : Int) (w : Go.World) (K : Go.Value → Go.World → Prop) => Go.Sx.CallsV Go.Proofs.Try.prog (89 :
 Nat) #[Go.Value.int Go.IntKind.i64 x] w fun (v : Go.Value) (w' : Go.World) => ∃ (x_1 : Bool), v = Go.Value.bool x_1 ∧ Go.Sx.CallsV Go.Proofs.Try.prog (89 : Nat) #[Go.Value.int Go.IntKind.i64 y] w' fun
 (v : Go.Value) (w' : Go.World) => ∃ (x_2 : Bool), v = Go.Value.bool x_2 ∧ bif x_1 then bif x_2 then K (Go.Value.int Go.IntKind.i64 (0 : Int)) w' else K (Go.Value.int Go.IntKind.i64 (-1 : Int)) w' else
 bif x_2 then K (Go.Value.int Go.IntKind.i64 (1 : Int)) w' else bif Decidable.decide (x < y) then K (Go.Value.int Go.IntKind.i64 (-1 : Int)) w' else bif Decidable.decide (y < x) then K (Go.Value.int
 Go.IntKind.i64 (1 : Int)) w' else K (Go.Value.int Go.IntKind.i64 (0 : Int)) w'
theorem cmp_Compare_int64.eq (x : Int) (y : Int) (w : World) (K : Value → World → Prop) : cmp_Compare_int64.W x y w K = fnW Try.prog Try.f74 .auto [.int .i64 x, .int .i64 y] w K := by kernel_rfl
theorem cmp_Compare_int64.calls (ok : Okay Try.prog) {x : Int} {y : Int} {w : World} {K : Value → World → Prop} (h : cmp_Compare_int64.W x y w K) : CallsV Try.prog 74 #[.int .i64 x, .int .i64 y] w K :=
  fnW_calls ok Try.func74 (an := .auto) (args := [.int .i64 x, .int .i64 y]) (by rw [← cmp_Compare_int64.eq]; exact h)
noncomputable def cmp_isNaN_api_Kind.W : Int → World → (Value → World → Prop) → Prop := fun (x : Int) (w : Go.World) (K : Go.Value → Go.World → Prop) => K (Go.Value.bool !Decidable.decide (x = x)) w
theorem cmp_isNaN_api_Kind.eq (x : Int) (w : World) (K : Value → World → Prop) : cmp_isNaN_api_Kind.W x w K = fnW Try.prog Try.f88 .auto [.int .u8 x] w K := by kernel_rfl
theorem cmp_isNaN_api_Kind.calls (ok : Okay Try.prog) {x : Int} {w : World} {K : Value → World → Prop} (h : cmp_isNaN_api_Kind.W x w K) : CallsV Try.prog 88 #[.int .u8 x] w K :=
  fnW_calls ok Try.func88 (an := .auto) (args := [.int .u8 x]) (by rw [← cmp_isNaN_api_Kind.eq]; exact h)
noncomputable def cmp_isNaN_int64.W : Int → World → (Value → World → Prop) → Prop := fun (x : Int) (w : Go.World) (K : Go.Value → Go.World → Prop) => K (Go.Value.bool !Decidable.decide (x = x)) w
theorem cmp_isNaN_int64.eq (x : Int) (w : World) (K : Value → World → Prop) : cmp_isNaN_int64.W x w K = fnW Try.prog Try.f89 .auto [.int .i64 x] w K := by kernel_rfl
theorem cmp_isNaN_int64.calls (ok : Okay Try.prog) {x : Int} {w : World} {K : Value → World → Prop} (h : cmp_isNaN_int64.W x w K) : CallsV Try.prog 89 #[.int .i64 x] w K :=
  fnW_calls ok Try.func89 (an := .auto) (args := [.int .i64 x]) (by rw [← cmp_isNaN_int64.eq]; exact h)
end Go.Proofs.Ytakmlaliglmnmaa
