/- Part 3 of the texts of this claim: the engine, contracts, plain laws. -/
import Derived.Test.YtaifphjenebgoaaDoorProg
import Derived.Test.YtaifphjenebgoaaDoorZCShowsP1
import Derived.Shelf.Strconv.Itoa0
import Derived.Shelf.Strconv.Itoa1
import Derived.Shelf.LaysM
import Derived.Shelf.Strconv.Itoa2
import Derived.Shelf.Strconv.Itoa3
import Derived.Shelf.Strings.Search1
import Derived.Shelf.Strings.Search2
import Derived.Shelf.Strings.Search3
import Derived.Shelf.Strings.Shaped
import Derived.Shelf.Strings.Prefix
import Derived.Shelf.Strings.Fields
import Derived.Shelf.Strings.SplitShaped
import Derived.Shelf.Unicode.Latin
import Derived.Shelf.Unicode.Is16White
import Derived.Shelf.Unicode.IsSpaceAny
import Derived.Shelf.Unicode.Is16Any
import Derived.Shelf.Unicode.Is32Any
import Derived.Shelf.Unicode.ExclAny
import Derived.Test.YtaifphjenebgoaaDoorZCShowsP2
/- The preconditions of Go functions, printed by a program of this workplace (nests.py); each is proved to be the engine's own. -/
set_option linter.unusedVariables false
set_option maxRecDepth 100000
namespace Go.Proofs.YtaifphjenebgoaaDoor
open Go Go.Sx
noncomputable def cardindexlaw15_CodeShows.W : Int → Int → Int → Int → Int → Int → Int → Int → Int → Int → World → (Value → World → Prop) → Prop := fun (i0 i1 i2 i3 i4 k0 k1 k2 k3 k4 : Int) (w :
 Go.World) (K : Go.Value → Go.World → Prop) => ∀ (g : Nat) (w' : Go.World), Go.Sx.Fresh w g w' [Go.Value.int Go.IntKind.u8 i0, Go.Value.int Go.IntKind.i64 i1, Go.Value.int Go.IntKind.i64 i2,
 Go.Value.int Go.IntKind.i64 i3, Go.Value.int Go.IntKind.i64 i4] (38 : Nat) → ∀ (g_1 : Nat) (w'_1 : Go.World), Go.Sx.Fresh w' g_1 w'_1 [Go.Value.int Go.IntKind.u8 k0, Go.Value.int Go.IntKind.i64 k1,
 Go.Value.int Go.IntKind.i64 k2, Go.Value.int Go.IntKind.i64 k3, Go.Value.int Go.IntKind.i64 k4] (38 : Nat) → ∃ (S : Go.World → Prop), S (Go.World.drew w'_1) ∧ ∃ (x : Int), (∀ (u : Go.World), S u →
 Go.World.cell? u (Go.Addr.add (Go.Addr.mk g (0 : Nat) Option.none) (0 : Nat)) = Option.some (Go.Value.int Go.IntKind.u8 x)) ∧ ∃ (x_1 : Int), (∀ (u : Go.World), S u → Go.World.cell? u (Go.Addr.add
 (Go.Addr.mk g (0 : Nat) Option.none) (1 : Nat)) = Option.some (Go.Value.int Go.IntKind.i64 x_1)) ∧ ∃ (x_2 : Int), (∀ (u : Go.World), S u → Go.World.cell? u (Go.Addr.add (Go.Addr.mk g (0 : Nat)
 Option.none) (2 : Nat)) = Option.some (Go.Value.int Go.IntKind.i64 x_2)) ∧ ∃ (x_3 : Int), (∀ (u : Go.World), S u → Go.World.cell? u (Go.Addr.add (Go.Addr.mk g (0 : Nat) Option.none) (3 : Nat)) =
 Option.some (Go.Value.int Go.IntKind.i64 x_3)) ∧ ∃ (x_4 : Int), (∀ (u : Go.World), S u → Go.World.cell? u (Go.Addr.add (Go.Addr.mk g (0 : Nat) Option.none) (4 : Nat)) = Option.some (Go.Value.int
 Go.IntKind.i64 x_4)) ∧ ∃ (x_5 : Int), (∀ (u : Go.World), S u → Go.World.cell? u (Go.Addr.add (Go.Addr.mk g_1 (0 : Nat) Option.none) (0 : Nat)) = Option.some (Go.Value.int Go.IntKind.u8 x_5)) ∧ ∃ (x_6 :
 Int), (∀ (u : Go.World), S u → Go.World.cell? u (Go.Addr.add (Go.Addr.mk g_1 (0 : Nat) Option.none) (1 : Nat)) = Option.some (Go.Value.int Go.IntKind.i64 x_6)) ∧ ∃ (x_7 : Int), (∀ (u : Go.World), S u →
 Go.World.cell? u (Go.Addr.add (Go.Addr.mk g_1 (0 : Nat) Option.none) (2 : Nat)) = Option.some (Go.Value.int Go.IntKind.i64 x_7)) ∧ ∃ (x_8 : Int), (∀ (u : Go.World), S u → Go.World.cell? u (Go.Addr.add
 (Go.Addr.mk g_1 (0 : Nat) Option.none) (3 : Nat)) = Option.some (Go.Value.int Go.IntKind.i64 x_8)) ∧ ∃ (x_9 : Int), (∀ (u : Go.World), S u → Go.World.cell? u (Go.Addr.add (Go.Addr.mk g_1 (0 : Nat)
 Option.none) (4 : Nat)) = Option.some (Go.Value.int Go.IntKind.i64 x_9)) ∧ Go.Sx.CallsV Go.Proofs.Tryd.prog (11 : Nat) #[Go.Value.agg #[Go.Value.int Go.IntKind.u8 x, Go.Value.int Go.IntKind.i64 x_1,
 Go.Value.int Go.IntKind.i64 x_2, Go.Value.int Go.IntKind.i64 x_3, Go.Value.int Go.IntKind.i64 x_4]] (Go.World.drew w'_1) fun (v : Go.Value) (w' : Go.World) => ∃ (x : ByteArray), v = Go.Value.string x ∧
 S w' ∧ Go.Sx.CallsV Go.Proofs.Tryd.prog (11 : Nat) #[Go.Value.agg #[Go.Value.int Go.IntKind.u8 x_5, Go.Value.int Go.IntKind.i64 x_6, Go.Value.int Go.IntKind.i64 x_7, Go.Value.int Go.IntKind.i64 x_8,
 Go.Value.int Go.IntKind.i64 x_9]] w' fun (v : Go.Value) (w' : Go.World) => ∃ (x_10 : ByteArray), v = Go.Value.string x_10 ∧ ∃ (x_11 : Int), Go.World.cell? w' (Go.Addr.add (Go.Addr.mk g (0 : Nat)
 Option.none) (0 : Nat)) = Option.some (Go.Value.int Go.IntKind.u8 x_11) ∧ ∃ (x_12 : Int), Go.World.cell? w' (Go.Addr.add (Go.Addr.mk g (0 : Nat) Option.none) (1 : Nat)) = Option.some (Go.Value.int
 Go.IntKind.i64 x_12) ∧ ∃ (x_13 : Int), Go.World.cell? w' (Go.Addr.add (Go.Addr.mk g (0 : Nat) Option.none) (2 : Nat)) = Option.some (Go.Value.int Go.IntKind.i64 x_13) ∧ ∃ (x_14 : Int), Go.World.cell?
 w' (Go.Addr.add (Go.Addr.mk g (0 : Nat) Option.none) (3 : Nat)) = Option.some (Go.Value.int Go.IntKind.i64 x_14) ∧ ∃ (x_15 : Int), Go.World.cell? w' (Go.Addr.add (Go.Addr.mk g (0 : Nat) Option.none) (4
 : Nat)) = Option.some (Go.Value.int Go.IntKind.i64 x_15) ∧ ∃ (x_16 : Int), Go.World.cell? w' (Go.Addr.add (Go.Addr.mk g_1 (0 : Nat) Option.none) (0 : Nat)) = Option.some (Go.Value.int Go.IntKind.u8
 x_16) ∧ ∃ (x_17 : Int), Go.World.cell? w' (Go.Addr.add (Go.Addr.mk g_1 (0 : Nat) Option.none) (1 : Nat)) = Option.some (Go.Value.int Go.IntKind.i64 x_17) ∧ ∃ (x_18 : Int), Go.World.cell? w'
 (Go.Addr.add (Go.Addr.mk g_1 (0 : Nat) Option.none) (2 : Nat)) = Option.some (Go.Value.int Go.IntKind.i64 x_18) ∧ ∃ (x_19 : Int), Go.World.cell? w' (Go.Addr.add (Go.Addr.mk g_1 (0 : Nat) Option.none)
 (3 : Nat)) = Option.some (Go.Value.int Go.IntKind.i64 x_19) ∧ ∃ (x_20 : Int), Go.World.cell? w' (Go.Addr.add (Go.Addr.mk g_1 (0 : Nat) Option.none) (4 : Nat)) = Option.some (Go.Value.int Go.IntKind.i64
 x_20) ∧ bif Go.Program.stoodInHeld Go.Proofs.Tryd.prog (38 : Nat) || Go.Program.eqGuardType Go.Proofs.Tryd.prog (Go.Program.depth Go.Proofs.Tryd.prog) (38 : Nat) || List.any (Array.toList #[Go.Field.mk
 "Op" (36 : Nat) (0 : Nat) Bool.false "" "" (0 : Nat), Go.Field.mk "A" (3 : Nat) (1 : Nat) Bool.false "" "" (8 : Nat), Go.Field.mk "B" (3 : Nat) (2 : Nat) Bool.false "" "" (16 : Nat), Go.Field.mk "C" (3
 : Nat) (3 : Nat) Bool.false "" "" (24 : Nat), Go.Field.mk "D" (3 : Nat) (4 : Nat) Bool.false "" "" (32 : Nat)]) fun (f : Go.Field) => Go.Field.name f == "_" then False else bif !Decidable.decide
 ((ByteArray.toList x == ByteArray.toList x_10) = (Decidable.decide (x_11 = x_16) && (Decidable.decide (x_12 = x_17) && (Decidable.decide (x_13 = x_18) && (Decidable.decide (x_14 = x_19) &&
 (Decidable.decide (x_15 = x_20) && Bool.true)))))) then K (Go.Value.bool Bool.false) w' else Go.Sx.CallsV Go.Proofs.Tryd.prog (12 : Nat) #[Go.Value.string x] w' fun (v : Go.Value) (w' : Go.World) => ∃
 (x_21 : Option Go.Addr), ∃ (x_22 : Nat), ∃ (x_23 : Nat), v = Go.Value.slice x_21 x_22 x_23 ∧ bif !Decidable.decide ((↑x_22 : Int) = (5 : Int)) then K (Go.Value.bool Bool.false) w' else Go.Sx.CallsV
 Go.Proofs.Tryd.prog (13 : Nat) #[Go.Value.string x, Go.Value.string (ByteArray.mk #[(32 : UInt8), (32 : UInt8)])] w' fun (v : Go.Value) (w' : Go.World) => ∃ (x_24 : Bool), v = Go.Value.bool x_24 ∧ bif
 x_24 then K (Go.Value.bool Bool.false) w' else ∃ (x_25 : Int), Go.World.cell? w' (Go.Addr.add (Go.Addr.mk g (0 : Nat) Option.none) (0 : Nat)) = Option.some (Go.Value.int Go.IntKind.u8 x_25) ∧
 Go.Sx.CallsV Go.Proofs.Tryd.prog (14 : Nat) #[Go.Value.int Go.IntKind.u8 x_25] w' fun (v : Go.Value) (w' : Go.World) => ∃ (x_26 : ByteArray), v = Go.Value.string x_26 ∧ bif ByteArray.toList x_26 ==
 ByteArray.toList (ByteArray.mk #[]) then Go.Sx.CallsV Go.Proofs.Tryd.prog (15 : Nat) #[Go.Value.string x, Go.Value.string (ByteArray.mk #[(111 : UInt8), (112 : UInt8)])] w' fun (v : Go.Value) (w' :
 Go.World) => ∃ (x_27 : Bool), v = Go.Value.bool x_27 ∧ bif x_27 then Go.Sx.CallsV Go.Proofs.Tryd.prog (9 : Nat) #[] w' fun (v : Go.Value) (w' : Go.World) => ∃ (x : Bool), v = Go.Value.bool x ∧ K
 (Go.Value.bool x) w' else bif !ByteArray.toList x_26 == ByteArray.toList (ByteArray.mk #[]) then ByteArray.size x_26 + ByteArray.size (ByteArray.mk #[(32 : UInt8)]) ≤ (9223372036854775807 : Nat) ∧
 Go.Sx.CallsV Go.Proofs.Tryd.prog (15 : Nat) #[Go.Value.string x, Go.Value.string (x_26 ++ ByteArray.mk #[(32 : UInt8)])] w' fun (v : Go.Value) (w' : Go.World) => ∃ (x : Bool), v = Go.Value.bool x ∧ bif
 x then Go.Sx.CallsV Go.Proofs.Tryd.prog (9 : Nat) #[] w' fun (v : Go.Value) (w' : Go.World) => ∃ (x : Bool), v = Go.Value.bool x ∧ K (Go.Value.bool x) w' else K (Go.Value.bool Bool.false) w' else K
 (Go.Value.bool Bool.false) w' else bif !ByteArray.toList x_26 == ByteArray.toList (ByteArray.mk #[]) then ByteArray.size x_26 + ByteArray.size (ByteArray.mk #[(32 : UInt8)]) ≤ (9223372036854775807 :
 Nat) ∧ Go.Sx.CallsV Go.Proofs.Tryd.prog (15 : Nat) #[Go.Value.string x, Go.Value.string (x_26 ++ ByteArray.mk #[(32 : UInt8)])] w' fun (v : Go.Value) (w' : Go.World) => ∃ (x : Bool), v = Go.Value.bool
 x ∧ bif x then Go.Sx.CallsV Go.Proofs.Tryd.prog (9 : Nat) #[] w' fun (v : Go.Value) (w' : Go.World) => ∃ (x : Bool), v = Go.Value.bool x ∧ K (Go.Value.bool x) w' else K (Go.Value.bool Bool.false) w'
 else K (Go.Value.bool Bool.false) w'
theorem cardindexlaw15_CodeShows.eq (i0 : Int) (i1 : Int) (i2 : Int) (i3 : Int) (i4 : Int) (k0 : Int) (k1 : Int) (k2 : Int) (k3 : Int) (k4 : Int) (w : World) (K : Value → World → Prop) : cardindexlaw15_CodeShows.W i0 i1 i2 i3 i4 k0 k1 k2 k3 k4 w K = fnW Tryd.prog Tryd.f5 (.named .auto) [.agg #[.int .u8 i0, .int .i64 i1, .int .i64 i2, .int .i64 i3, .int .i64 i4], .agg #[.int .u8 k0, .int .i64 k1, .int .i64 k2, .int .i64 k3, .int .i64 k4]] w K := by kernel_rfl
theorem cardindexlaw15_CodeShows.calls (ok : Okay Tryd.prog) {i0 : Int} {i1 : Int} {i2 : Int} {i3 : Int} {i4 : Int} {k0 : Int} {k1 : Int} {k2 : Int} {k3 : Int} {k4 : Int} {w : World} {K : Value → World → Prop} (h : cardindexlaw15_CodeShows.W i0 i1 i2 i3 i4 k0 k1 k2 k3 k4 w K) : CallsV Tryd.prog 5 #[.agg #[.int .u8 i0, .int .i64 i1, .int .i64 i2, .int .i64 i3, .int .i64 i4], .agg #[.int .u8 k0, .int .i64 k1, .int .i64 k2, .int .i64 k3, .int .i64 k4]] w K :=
  fnW_calls ok Tryd.func5 (an := (.named .auto)) (args := [.agg #[.int .u8 i0, .int .i64 i1, .int .i64 i2, .int .i64 i3, .int .i64 i4], .agg #[.int .u8 k0, .int .i64 k1, .int .i64 k2, .int .i64 k3, .int .i64 k4]]) (by rw [← cardindexlaw15_CodeShows.eq]; exact h)
end Go.Proofs.YtaifphjenebgoaaDoor
/- The preconditions of Go functions, printed by a program of this workplace (nests.py); each is proved to be the engine's own. -/
set_option linter.unusedVariables false
set_option maxRecDepth 100000
namespace Go.Proofs.YtaifphjenebgoaaDoor
open Go Go.Sx
noncomputable def code_Show.W : Int → Int → Int → Int → Int → World → (Value → World → Prop) → Prop := fun (i0 i1 i2 i3 i4 : Int) (w : Go.World) (K : Go.Value → Go.World → Prop) => ∀ (g : Nat) (w' :
 Go.World), Go.Sx.Fresh w g w' [Go.Value.int Go.IntKind.u8 i0, Go.Value.int Go.IntKind.i64 i1, Go.Value.int Go.IntKind.i64 i2, Go.Value.int Go.IntKind.i64 i3, Go.Value.int Go.IntKind.i64 i4] (38 : Nat)
 → ∃ (x : Int), Go.World.cell? w' (Go.Addr.add (Go.Addr.mk g (0 : Nat) Option.none) (0 : Nat)) = Option.some (Go.Value.int Go.IntKind.u8 x) ∧ Go.Sx.CallsV Go.Proofs.Tryd.prog (14 : Nat) #[Go.Value.int
 Go.IntKind.u8 x] w' fun (v : Go.Value) (w' : Go.World) => ∃ (x : ByteArray), v = Go.Value.string x ∧ ∃ (J : ByteArray → Go.World → Prop), (∀ (x : ByteArray) (w : Go.World), J x w → ∃ (x_1 : Int),
 Go.World.cell? w (Go.Addr.add (Go.Addr.mk g (0 : Nat) Option.none) (1 : Nat)) = Option.some (Go.Value.int Go.IntKind.i64 x_1) ∧ ∃ (x_2 : Int), Go.World.cell? w (Go.Addr.add (Go.Addr.mk g (0 : Nat)
 Option.none) (2 : Nat)) = Option.some (Go.Value.int Go.IntKind.i64 x_2) ∧ ∃ (x_3 : Int), Go.World.cell? w (Go.Addr.add (Go.Addr.mk g (0 : Nat) Option.none) (3 : Nat)) = Option.some (Go.Value.int
 Go.IntKind.i64 x_3) ∧ ∃ (x_4 : Int), Go.World.cell? w (Go.Addr.add (Go.Addr.mk g (0 : Nat) Option.none) (4 : Nat)) = Option.some (Go.Value.int Go.IntKind.i64 x_4) ∧ ∃ (I : ByteArray → Int → Go.World →
 Prop), ∃ (μ : ByteArray → Int → Go.World → Nat), I x (0 : Int) w ∧ ∀ (x : ByteArray) (x_5 : Int) (w : Go.World), I x x_5 w → bif Decidable.decide (x_5 < (4 : Int)) then ((0 : Int) ≤ x_5 ∧ x_5 < (↑(4 :
 Nat) : Int)) ∧ bif Decidable.decide (x_5 = (↑(0 : Nat) : Int)) then Go.Sx.CallsV Go.Proofs.Tryd.prog (22 : Nat) #[Go.Value.int Go.IntKind.i64 x_1] w fun (v : Go.Value) (w' : Go.World) => ∃ (x_6 :
 ByteArray), v = Go.Value.string x_6 ∧ ByteArray.size (ByteArray.mk #[(32 : UInt8)]) + ByteArray.size x_6 ≤ (9223372036854775807 : Nat) ∧ ByteArray.size x + ByteArray.size (ByteArray.mk #[(32 : UInt8)]
 ++ x_6) ≤ (9223372036854775807 : Nat) ∧ I (x ++ (ByteArray.mk #[(32 : UInt8)] ++ x_6)) (Go.IntKind.wrap Go.IntKind.i64 (x_5 + (1 : Int))) w' ∧ μ (x ++ (ByteArray.mk #[(32 : UInt8)] ++ x_6))
 (Go.IntKind.wrap Go.IntKind.i64 (x_5 + (1 : Int))) w' < μ x x_5 w else bif Decidable.decide (x_5 = (↑(1 : Nat) : Int)) then Go.Sx.CallsV Go.Proofs.Tryd.prog (22 : Nat) #[Go.Value.int Go.IntKind.i64
 x_2] w fun (v : Go.Value) (w' : Go.World) => ∃ (x_6 : ByteArray), v = Go.Value.string x_6 ∧ ByteArray.size (ByteArray.mk #[(32 : UInt8)]) + ByteArray.size x_6 ≤ (9223372036854775807 : Nat) ∧
 ByteArray.size x + ByteArray.size (ByteArray.mk #[(32 : UInt8)] ++ x_6) ≤ (9223372036854775807 : Nat) ∧ I (x ++ (ByteArray.mk #[(32 : UInt8)] ++ x_6)) (Go.IntKind.wrap Go.IntKind.i64 (x_5 + (1 : Int)))
 w' ∧ μ (x ++ (ByteArray.mk #[(32 : UInt8)] ++ x_6)) (Go.IntKind.wrap Go.IntKind.i64 (x_5 + (1 : Int))) w' < μ x x_5 w else bif Decidable.decide (x_5 = (↑(2 : Nat) : Int)) then Go.Sx.CallsV
 Go.Proofs.Tryd.prog (22 : Nat) #[Go.Value.int Go.IntKind.i64 x_3] w fun (v : Go.Value) (w' : Go.World) => ∃ (x_6 : ByteArray), v = Go.Value.string x_6 ∧ ByteArray.size (ByteArray.mk #[(32 : UInt8)]) +
 ByteArray.size x_6 ≤ (9223372036854775807 : Nat) ∧ ByteArray.size x + ByteArray.size (ByteArray.mk #[(32 : UInt8)] ++ x_6) ≤ (9223372036854775807 : Nat) ∧ I (x ++ (ByteArray.mk #[(32 : UInt8)] ++ x_6))
 (Go.IntKind.wrap Go.IntKind.i64 (x_5 + (1 : Int))) w' ∧ μ (x ++ (ByteArray.mk #[(32 : UInt8)] ++ x_6)) (Go.IntKind.wrap Go.IntKind.i64 (x_5 + (1 : Int))) w' < μ x x_5 w else bif Decidable.decide (x_5 =
 (↑(3 : Nat) : Int)) then Go.Sx.CallsV Go.Proofs.Tryd.prog (22 : Nat) #[Go.Value.int Go.IntKind.i64 x_4] w fun (v : Go.Value) (w' : Go.World) => ∃ (x_6 : ByteArray), v = Go.Value.string x_6 ∧
 ByteArray.size (ByteArray.mk #[(32 : UInt8)]) + ByteArray.size x_6 ≤ (9223372036854775807 : Nat) ∧ ByteArray.size x + ByteArray.size (ByteArray.mk #[(32 : UInt8)] ++ x_6) ≤ (9223372036854775807 : Nat)
 ∧ I (x ++ (ByteArray.mk #[(32 : UInt8)] ++ x_6)) (Go.IntKind.wrap Go.IntKind.i64 (x_5 + (1 : Int))) w' ∧ μ (x ++ (ByteArray.mk #[(32 : UInt8)] ++ x_6)) (Go.IntKind.wrap Go.IntKind.i64 (x_5 + (1 :
 Int))) w' < μ x x_5 w else False else K (Go.Value.string x) w) ∧ bif ByteArray.toList x == ByteArray.toList (ByteArray.mk #[]) then ∃ (x : Int), Go.World.cell? w' (Go.Addr.add (Go.Addr.mk g (0 : Nat)
 Option.none) (0 : Nat)) = Option.some (Go.Value.int Go.IntKind.u8 x) ∧ Go.Sx.CallsV Go.Proofs.Tryd.prog (22 : Nat) #[Go.Value.int Go.IntKind.i64 (Go.IntKind.wrap Go.IntKind.i64 x)] w' fun (v :
 Go.Value) (w' : Go.World) => ∃ (x : ByteArray), v = Go.Value.string x ∧ ByteArray.size (ByteArray.mk #[(111 : UInt8), (112 : UInt8)]) + ByteArray.size x ≤ (9223372036854775807 : Nat) ∧ J (ByteArray.mk
 #[(111 : UInt8), (112 : UInt8)] ++ x) w' else J x w'
theorem code_Show.eq (i0 : Int) (i1 : Int) (i2 : Int) (i3 : Int) (i4 : Int) (w : World) (K : Value → World → Prop) : code_Show.W i0 i1 i2 i3 i4 w K = fnW Tryd.prog Tryd.f11 (.named (.seq .auto (.seq .auto (.join [(3, .one .str)] .auto (.seq (.seq .auto (.block (.loop [(3, .one .str), (25, .one (.int .i64))] .auto))) .auto))))) [.agg #[.int .u8 i0, .int .i64 i1, .int .i64 i2, .int .i64 i3, .int .i64 i4]] w K := by kernel_rfl
theorem code_Show.calls (ok : Okay Tryd.prog) {i0 : Int} {i1 : Int} {i2 : Int} {i3 : Int} {i4 : Int} {w : World} {K : Value → World → Prop} (h : code_Show.W i0 i1 i2 i3 i4 w K) : CallsV Tryd.prog 11 #[.agg #[.int .u8 i0, .int .i64 i1, .int .i64 i2, .int .i64 i3, .int .i64 i4]] w K :=
  fnW_calls ok Tryd.func11 (an := (.named (.seq .auto (.seq .auto (.join [(3, .one .str)] .auto (.seq (.seq .auto (.block (.loop [(3, .one .str), (25, .one (.int .i64))] .auto))) .auto)))))) (args := [.agg #[.int .u8 i0, .int .i64 i1, .int .i64 i2, .int .i64 i3, .int .i64 i4]]) (by rw [← code_Show.eq]; exact h)
noncomputable def code_Word.W : Int → World → (Value → World → Prop) → Prop := fun (o : Int) (w : Go.World) (K : Go.Value → Go.World → Prop) => Go.Sx.CallsV Go.Proofs.Tryd.prog (26 : Nat)
 #[Go.Value.string (ByteArray.mk #[(99 : UInt8), (111 : UInt8), (110 : UInt8), (115 : UInt8), (116 : UInt8), (32 : UInt8), (98 : UInt8), (105 : UInt8), (110 : UInt8), (100 : UInt8), (32 : UInt8), (109 :
 UInt8), (111 : UInt8), (118 : UInt8), (101 : UInt8), (32 : UInt8), (116 : UInt8), (119 : UInt8), (111 : UInt8), (32 : UInt8), (111 : UInt8), (110 : UInt8), (101 : UInt8), (32 : UInt8), (105 : UInt8),
 (115 : UInt8), (32 : UInt8), (99 : UInt8), (97 : UInt8), (115 : UInt8), (116 : UInt8), (32 : UInt8), (99 : UInt8), (97 : UInt8), (108 : UInt8), (108 : UInt8), (32 : UInt8), (109 : UInt8), (117 :
 UInt8), (115 : UInt8), (116 : UInt8), (32 : UInt8), (106 : UInt8), (117 : UInt8), (109 : UInt8), (112 : UInt8), (32 : UInt8), (105 : UInt8), (102 : UInt8), (32 : UInt8), (100 : UInt8), (105 : UInt8),
 (102 : UInt8), (102 : UInt8), (101 : UInt8), (114 : UInt8), (32 : UInt8), (102 : UInt8), (105 : UInt8), (114 : UInt8), (115 : UInt8), (116 : UInt8), (32 : UInt8), (115 : UInt8), (101 : UInt8), (101 :
 UInt8), (107 : UInt8), (32 : UInt8), (110 : UInt8), (101 : UInt8), (120 : UInt8), (116 : UInt8), (32 : UInt8), (112 : UInt8), (97 : UInt8), (115 : UInt8), (116 : UInt8), (32 : UInt8), (102 : UInt8),
 (105 : UInt8), (110 : UInt8), (100 : UInt8), (32 : UInt8), (99 : UInt8), (111 : UInt8), (108 : UInt8), (32 : UInt8), (114 : UInt8), (111 : UInt8), (119 : UInt8), (105 : UInt8), (100 : UInt8), (32 :
 UInt8), (97 : UInt8), (100 : UInt8), (100 : UInt8), (32 : UInt8), (115 : UInt8), (111 : UInt8), (114 : UInt8), (116 : UInt8), (101 : UInt8), (100 : UInt8), (32 : UInt8), (97 : UInt8), (102 : UInt8),
 (116 : UInt8), (101 : UInt8), (114 : UInt8), (32 : UInt8), (116 : UInt8), (97 : UInt8), (107 : UInt8), (101 : UInt8), (32 : UInt8), (99 : UInt8), (108 : UInt8), (101 : UInt8), (97 : UInt8), (114 :
 UInt8), (32 : UInt8), (115 : UInt8), (116 : UInt8), (101 : UInt8), (112 : UInt8), (32 : UInt8), (116 : UInt8), (111 : UInt8), (116 : UInt8), (97 : UInt8), (108 : UInt8), (32 : UInt8), (114 : UInt8),
 (111 : UInt8), (119 : UInt8), (32 : UInt8), (110 : UInt8), (101 : UInt8), (119 : UInt8), (105 : UInt8), (100 : UInt8), (32 : UInt8), (105 : UInt8), (110 : UInt8), (115 : UInt8), (101 : UInt8), (114 :
 UInt8), (116 : UInt8), (32 : UInt8), (100 : UInt8), (101 : UInt8), (108 : UInt8), (101 : UInt8), (116 : UInt8), (101 : UInt8), (32 : UInt8), (100 : UInt8), (101 : UInt8), (102 : UInt8), (105 : UInt8),
 (110 : UInt8), (101 : UInt8), (32 : UInt8), (98 : UInt8), (101 : UInt8), (103 : UInt8), (105 : UInt8), (110 : UInt8), (32 : UInt8), (99 : UInt8), (111 : UInt8), (109 : UInt8), (109 : UInt8), (105 :
 UInt8), (116 : UInt8), (32 : UInt8), (98 : UInt8), (97 : UInt8), (99 : UInt8), (107 : UInt8), (32 : UInt8), (104 : UInt8), (97 : UInt8), (108 : UInt8), (116 : UInt8)]), Go.Value.int Go.IntKind.i64
 (Go.IntKind.wrap Go.IntKind.i64 (Go.IntKind.wrap Go.IntKind.i64 o - (1 : Int)))] w fun (v : Go.Value) (w' : Go.World) => ∃ (x : ByteArray), ∃ (x_1 : Bool), v = Go.Value.tuple #[Go.Value.string x,
 Go.Value.bool x_1] ∧ K (Go.Value.string x) w'
theorem code_Word.eq (o : Int) (w : World) (K : Value → World → Prop) : code_Word.W o w K = fnW Tryd.prog Tryd.f14 (.named .auto) [.int .u8 o] w K := by kernel_rfl
theorem code_Word.calls (ok : Okay Tryd.prog) {o : Int} {w : World} {K : Value → World → Prop} (h : code_Word.W o w K) : CallsV Tryd.prog 14 #[.int .u8 o] w K :=
  fnW_calls ok Tryd.func14 (an := (.named .auto)) (args := [.int .u8 o]) (by rw [← code_Word.eq]; exact h)
noncomputable def cardindexlaw15_Great.W : Int → Int → Int → Option Addr → Nat → Nat → Option Addr → Nat → Nat → Option Addr → Nat → Nat → Option Addr → Nat → Nat → Option Addr → Nat → Nat → Option
 Addr → Nat → Nat → World → (Value → World → Prop) → Prop := fun (p0 p1 p2 : Int) (p3_A : Option Go.Addr) (p3_n p3_c : Nat) (p4_A : Option Go.Addr) (p4_n p4_c : Nat) (p5_A : Option Go.Addr) (p5_n p5_c :
 Nat) (p6_A : Option Go.Addr) (p6_n p6_c : Nat) (p7_A : Option Go.Addr) (p7_n p7_c : Nat) (p8_A : Option Go.Addr) (p8_n p8_c : Nat) (w : Go.World) (K : Go.Value → Go.World → Prop) => ∀ (g : Nat) (w' :
 Go.World), Go.Sx.Fresh w g w' [Go.Value.int Go.IntKind.i64 p0, Go.Value.int Go.IntKind.i64 p1, Go.Value.int Go.IntKind.i64 p2, Go.Value.slice p3_A p3_n p3_c, Go.Value.slice p4_A p4_n p4_c,
 Go.Value.slice p5_A p5_n p5_c, Go.Value.slice p6_A p6_n p6_c, Go.Value.slice p7_A p7_n p7_c, Go.Value.slice p8_A p8_n p8_c] (29 : Nat) → ∃ (x : Option Go.Addr), ∃ (x_1 : Nat), ∃ (x_2 : Nat),
 Go.World.cell? w' (Go.Addr.add (Go.Addr.mk g (0 : Nat) Option.none) (8 : Nat)) = Option.some (Go.Value.slice x x_1 x_2) ∧ bif Decidable.decide ((5000 : Int) < (↑x_1 : Int)) then K (Go.Value.bool
 Bool.true) w' else ∃ (x : Option Go.Addr), ∃ (x_3 : Nat), ∃ (x_4 : Nat), Go.World.cell? w' (Go.Addr.add (Go.Addr.mk g (0 : Nat) Option.none) (3 : Nat)) = Option.some (Go.Value.slice x x_3 x_4) ∧ ∃ (x :
 Option Go.Addr), ∃ (x_5 : Nat), ∃ (x_6 : Nat), Go.World.cell? w' (Go.Addr.add (Go.Addr.mk g (0 : Nat) Option.none) (5 : Nat)) = Option.some (Go.Value.slice x x_5 x_6) ∧ ∃ (x : Option Go.Addr), ∃ (x_7 :
 Nat), ∃ (x_8 : Nat), Go.World.cell? w' (Go.Addr.add (Go.Addr.mk g (0 : Nat) Option.none) (6 : Nat)) = Option.some (Go.Value.slice x x_7 x_8) ∧ ∃ (x : Option Go.Addr), ∃ (x_9 : Nat), ∃ (x_10 : Nat),
 Go.World.cell? w' (Go.Addr.add (Go.Addr.mk g (0 : Nat) Option.none) (7 : Nat)) = Option.some (Go.Value.slice x x_9 x_10) ∧ bif Decidable.decide ((1100 : Int) < Go.IntKind.wrap Go.IntKind.i64
 (Go.IntKind.wrap Go.IntKind.i64 (Go.IntKind.wrap Go.IntKind.i64 ((↑x_3 : Int) + (↑x_5 : Int)) + (↑x_7 : Int)) + (↑x_9 : Int))) then K (Go.Value.bool Bool.true) w' else ∃ (x : Option Go.Addr), ∃ (x_11 :
 Nat), ∃ (x_12 : Nat), Go.World.cell? w' (Go.Addr.add (Go.Addr.mk g (0 : Nat) Option.none) (4 : Nat)) = Option.some (Go.Value.slice x x_11 x_12) ∧ bif Decidable.decide ((1100 : Int) < (↑x_11 : Int))
 then K (Go.Value.bool Bool.true) w' else ∃ (x : Option Go.Addr), ∃ (x_13 : Nat), ∃ (x_14 : Nat), Go.World.cell? w' (Go.Addr.add (Go.Addr.mk g (0 : Nat) Option.none) (3 : Nat)) = Option.some
 (Go.Value.slice x x_13 x_14) ∧ ∃ (I : Int → Int → Go.World → Prop), ∃ (μ : Int → Int → Go.World → Nat), I (0 : Int) (0 : Int) w' ∧ ∀ (x x_15 : Int) (w : Go.World), I x x_15 w → bif Decidable.decide
 (x_15 < (↑x_13 : Int)) then ∃ (x_16 : Option Go.Addr), ∃ (x_17 : Nat), ∃ (x_18 : Nat), Go.World.cell? w (Go.Addr.add (Go.Addr.mk g (0 : Nat) Option.none) (3 : Nat)) = Option.some (Go.Value.slice x_16
 x_17 x_18) ∧ ∃ (ad : Go.Addr), x_16 = Option.some ad ∧ ((0 : Int) ≤ x_15 ∧ x_15 < (↑x_17 : Int)) ∧ ∃ (x_19 : ByteArray), Go.World.cell? w (Go.Addr.add ad (Int.toNat x_15 * (1 : Nat))) = Option.some
 (Go.Value.string x_19) ∧ I (Go.IntKind.wrap Go.IntKind.i64 (x + (↑(ByteArray.size x_19) : Int))) (Go.IntKind.wrap Go.IntKind.i64 (x_15 + (1 : Int))) w ∧ μ (Go.IntKind.wrap Go.IntKind.i64 (x +
 (↑(ByteArray.size x_19) : Int))) (Go.IntKind.wrap Go.IntKind.i64 (x_15 + (1 : Int))) w < μ x x_15 w else ∃ (x_16 : Option Go.Addr), ∃ (x_17 : Nat), ∃ (x_18 : Nat), Go.World.cell? w (Go.Addr.add
 (Go.Addr.mk g (0 : Nat) Option.none) (4 : Nat)) = Option.some (Go.Value.slice x_16 x_17 x_18) ∧ ∃ (I : Int → Int → Go.World → Prop), ∃ (μ : Int → Int → Go.World → Nat), I x (0 : Int) w ∧ ∀ (x x_19 :
 Int) (w : Go.World), I x x_19 w → bif Decidable.decide (x_19 < (↑x_17 : Int)) then ∃ (x_20 : Option Go.Addr), ∃ (x_21 : Nat), ∃ (x_22 : Nat), Go.World.cell? w (Go.Addr.add (Go.Addr.mk g (0 : Nat)
 Option.none) (4 : Nat)) = Option.some (Go.Value.slice x_20 x_21 x_22) ∧ ∃ (ad : Go.Addr), x_20 = Option.some ad ∧ ((0 : Int) ≤ x_19 ∧ x_19 < (↑x_21 : Int)) ∧ ∃ (x_23 : ByteArray), Go.World.cell? w
 (Go.Addr.add (Go.Addr.add ad (Int.toNat x_19 * (3 : Nat))) (2 : Nat)) = Option.some (Go.Value.string x_23) ∧ I (Go.IntKind.wrap Go.IntKind.i64 (x + (↑(ByteArray.size x_23) : Int))) (Go.IntKind.wrap
 Go.IntKind.i64 (x_19 + (1 : Int))) w ∧ μ (Go.IntKind.wrap Go.IntKind.i64 (x + (↑(ByteArray.size x_23) : Int))) (Go.IntKind.wrap Go.IntKind.i64 (x_19 + (1 : Int))) w < μ x x_19 w else ∃ (x_20 : Option
 Go.Addr), ∃ (x_21 : Nat), ∃ (x_22 : Nat), Go.World.cell? w (Go.Addr.add (Go.Addr.mk g (0 : Nat) Option.none) (5 : Nat)) = Option.some (Go.Value.slice x_20 x_21 x_22) ∧ ∃ (I : Int → Int → Go.World →
 Prop), ∃ (μ : Int → Int → Go.World → Nat), I x (0 : Int) w ∧ ∀ (x x_23 : Int) (w : Go.World), I x x_23 w → bif Decidable.decide (x_23 < (↑x_21 : Int)) then ∃ (x_24 : Option Go.Addr), ∃ (x_25 : Nat), ∃
 (x_26 : Nat), Go.World.cell? w (Go.Addr.add (Go.Addr.mk g (0 : Nat) Option.none) (5 : Nat)) = Option.some (Go.Value.slice x_24 x_25 x_26) ∧ ∃ (ad : Go.Addr), x_24 = Option.some ad ∧ ((0 : Int) ≤ x_23 ∧
 x_23 < (↑x_25 : Int)) ∧ ∃ (x_27 : ByteArray), Go.World.cell? w (Go.Addr.add (Go.Addr.add ad (Int.toNat x_23 * (3 : Nat))) (0 : Nat)) = Option.some (Go.Value.string x_27) ∧ I (Go.IntKind.wrap
 Go.IntKind.i64 (x + (↑(ByteArray.size x_27) : Int))) (Go.IntKind.wrap Go.IntKind.i64 (x_23 + (1 : Int))) w ∧ μ (Go.IntKind.wrap Go.IntKind.i64 (x + (↑(ByteArray.size x_27) : Int))) (Go.IntKind.wrap
 Go.IntKind.i64 (x_23 + (1 : Int))) w < μ x x_23 w else ∃ (x_24 : Option Go.Addr), ∃ (x_25 : Nat), ∃ (x_26 : Nat), Go.World.cell? w (Go.Addr.add (Go.Addr.mk g (0 : Nat) Option.none) (6 : Nat)) =
 Option.some (Go.Value.slice x_24 x_25 x_26) ∧ ∃ (I : Int → Int → Go.World → Prop), ∃ (μ : Int → Int → Go.World → Nat), I x (0 : Int) w ∧ ∀ (x x_27 : Int) (w : Go.World), I x x_27 w → bif
 Decidable.decide (x_27 < (↑x_25 : Int)) then ∃ (x_28 : Option Go.Addr), ∃ (x_29 : Nat), ∃ (x_30 : Nat), Go.World.cell? w (Go.Addr.add (Go.Addr.mk g (0 : Nat) Option.none) (6 : Nat)) = Option.some
 (Go.Value.slice x_28 x_29 x_30) ∧ ∃ (ad : Go.Addr), x_28 = Option.some ad ∧ ((0 : Int) ≤ x_27 ∧ x_27 < (↑x_29 : Int)) ∧ ∃ (x_31 : Option Go.Addr), ∃ (x_32 : Nat), ∃ (x_33 : Nat), Go.World.cell? w
 (Go.Addr.add (Go.Addr.add ad (Int.toNat x_27 * (3 : Nat))) (0 : Nat)) = Option.some (Go.Value.slice x_31 x_32 x_33) ∧ I (Go.IntKind.wrap Go.IntKind.i64 (x + (↑x_32 : Int))) (Go.IntKind.wrap
 Go.IntKind.i64 (x_27 + (1 : Int))) w ∧ μ (Go.IntKind.wrap Go.IntKind.i64 (x + (↑x_32 : Int))) (Go.IntKind.wrap Go.IntKind.i64 (x_27 + (1 : Int))) w < μ x x_27 w else ∃ (x_28 : Option Go.Addr), ∃ (x_29
 : Nat), ∃ (x_30 : Nat), Go.World.cell? w (Go.Addr.add (Go.Addr.mk g (0 : Nat) Option.none) (7 : Nat)) = Option.some (Go.Value.slice x_28 x_29 x_30) ∧ ∃ (I : Int → Int → Go.World → Prop), ∃ (μ : Int →
 Int → Go.World → Nat), I x (0 : Int) w ∧ ∀ (x x_31 : Int) (w : Go.World), I x x_31 w → bif Decidable.decide (x_31 < (↑x_29 : Int)) then ∃ (x_32 : Option Go.Addr), ∃ (x_33 : Nat), ∃ (x_34 : Nat),
 Go.World.cell? w (Go.Addr.add (Go.Addr.mk g (0 : Nat) Option.none) (7 : Nat)) = Option.some (Go.Value.slice x_32 x_33 x_34) ∧ ∃ (ad : Go.Addr), x_32 = Option.some ad ∧ ((0 : Int) ≤ x_31 ∧ x_31 < (↑x_33
 : Int)) ∧ ∃ (x_35 : ByteArray), Go.World.cell? w (Go.Addr.add (Go.Addr.add ad (Int.toNat x_31 * (2 : Nat))) (0 : Nat)) = Option.some (Go.Value.string x_35) ∧ I (Go.IntKind.wrap Go.IntKind.i64 (x +
 (↑(ByteArray.size x_35) : Int))) (Go.IntKind.wrap Go.IntKind.i64 (x_31 + (1 : Int))) w ∧ μ (Go.IntKind.wrap Go.IntKind.i64 (x + (↑(ByteArray.size x_35) : Int))) (Go.IntKind.wrap Go.IntKind.i64 (x_31 +
 (1 : Int))) w < μ x x_31 w else K (Go.Value.bool (Decidable.decide ((70000 : Int) < x))) w
theorem cardindexlaw15_Great.eq (p0 : Int) (p1 : Int) (p2 : Int) (p3_A : Option Addr) (p3_n : Nat) (p3_c : Nat) (p4_A : Option Addr) (p4_n : Nat) (p4_c : Nat) (p5_A : Option Addr) (p5_n : Nat) (p5_c : Nat) (p6_A : Option Addr) (p6_n : Nat) (p6_c : Nat) (p7_A : Option Addr) (p7_n : Nat) (p7_c : Nat) (p8_A : Option Addr) (p8_n : Nat) (p8_c : Nat) (w : World) (K : Value → World → Prop) : cardindexlaw15_Great.W p0 p1 p2 p3_A p3_n p3_c p4_A p4_n p4_c p5_A p5_n p5_c p6_A p6_n p6_c p7_A p7_n p7_c p8_A p8_n p8_c w K = fnW Tryd.prog Tryd.f7 (.named (.seq .auto (.seq .auto (.seq .auto (.seq (.seq .auto (.block (.loop [(3, .one (.int .i64)), (40, .one (.int .i64))] .auto))) (.seq (.seq .auto (.block (.loop [(3, .one (.int .i64)), (55, .one (.int .i64))] .auto))) (.seq (.seq .auto (.block (.loop [(3, .one (.int .i64)), (71, .one (.int .i64))] .auto))) (.seq (.seq .auto (.block (.loop [(3, .one (.int .i64)), (87, .one (.int .i64))] .auto))) (.seq (.seq .auto (.block (.loop [(3, .one (.int .i64)), (103, .one (.int .i64))] .auto))) .auto))))))))) [.agg #[.int .i64 p0, .int .i64 p1, .int .i64 p2, .slice p3_A p3_n p3_c, .slice p4_A p4_n p4_c, .slice p5_A p5_n p5_c, .slice p6_A p6_n p6_c, .slice p7_A p7_n p7_c, .slice p8_A p8_n p8_c]] w K := by kernel_rfl
theorem cardindexlaw15_Great.calls (ok : Okay Tryd.prog) {p0 : Int} {p1 : Int} {p2 : Int} {p3_A : Option Addr} {p3_n : Nat} {p3_c : Nat} {p4_A : Option Addr} {p4_n : Nat} {p4_c : Nat} {p5_A : Option Addr} {p5_n : Nat} {p5_c : Nat} {p6_A : Option Addr} {p6_n : Nat} {p6_c : Nat} {p7_A : Option Addr} {p7_n : Nat} {p7_c : Nat} {p8_A : Option Addr} {p8_n : Nat} {p8_c : Nat} {w : World} {K : Value → World → Prop} (h : cardindexlaw15_Great.W p0 p1 p2 p3_A p3_n p3_c p4_A p4_n p4_c p5_A p5_n p5_c p6_A p6_n p6_c p7_A p7_n p7_c p8_A p8_n p8_c w K) : CallsV Tryd.prog 7 #[.agg #[.int .i64 p0, .int .i64 p1, .int .i64 p2, .slice p3_A p3_n p3_c, .slice p4_A p4_n p4_c, .slice p5_A p5_n p5_c, .slice p6_A p6_n p6_c, .slice p7_A p7_n p7_c, .slice p8_A p8_n p8_c]] w K :=
  fnW_calls ok Tryd.func7 (an := (.named (.seq .auto (.seq .auto (.seq .auto (.seq (.seq .auto (.block (.loop [(3, .one (.int .i64)), (40, .one (.int .i64))] .auto))) (.seq (.seq .auto (.block (.loop [(3, .one (.int .i64)), (55, .one (.int .i64))] .auto))) (.seq (.seq .auto (.block (.loop [(3, .one (.int .i64)), (71, .one (.int .i64))] .auto))) (.seq (.seq .auto (.block (.loop [(3, .one (.int .i64)), (87, .one (.int .i64))] .auto))) (.seq (.seq .auto (.block (.loop [(3, .one (.int .i64)), (103, .one (.int .i64))] .auto))) .auto)))))))))) (args := [.agg #[.int .i64 p0, .int .i64 p1, .int .i64 p2, .slice p3_A p3_n p3_c, .slice p4_A p4_n p4_c, .slice p5_A p5_n p5_c, .slice p6_A p6_n p6_c, .slice p7_A p7_n p7_c, .slice p8_A p8_n p8_c]]) (by rw [← cardindexlaw15_Great.eq]; exact h)
noncomputable def cardindexlaw15_awake.W : World → (Value → World → Prop) → Prop := fun (w : Go.World) (K : Go.Value → Go.World → Prop) => ∀ (g : Nat) (w' : Go.World), Go.Sx.Fresh w g w' [Go.Value.int
 Go.IntKind.u8 (35 : Int), Go.Value.int Go.IntKind.i64 (0 : Int), Go.Value.int Go.IntKind.i64 (0 : Int), Go.Value.int Go.IntKind.i64 (0 : Int), Go.Value.int Go.IntKind.i64 (0 : Int)] (38 : Nat) → ∀ (g_1
 : Nat) (w'_1 : Go.World), Go.Sx.Fresh w' g_1 w'_1 [Go.Value.int Go.IntKind.i64 (0 : Int), Go.Value.int Go.IntKind.i64 (0 : Int), Go.Value.int Go.IntKind.i64 (0 : Int), Go.Value.slice Option.none (0 :
 Nat) (0 : Nat), Go.Value.slice Option.none (0 : Nat) (0 : Nat), Go.Value.slice Option.none (0 : Nat) (0 : Nat), Go.Value.slice Option.none (0 : Nat) (0 : Nat), Go.Value.slice Option.none (0 : Nat) (0 :
 Nat), Go.Value.slice Option.none (0 : Nat) (0 : Nat)] (29 : Nat) → Go.Sx.stOK (Go.Addr.mk g_1 (0 : Nat) Option.none) (0 : Nat) [Go.Value.int Go.IntKind.i64 (1 : Int), Go.Value.int Go.IntKind.i64 (1 :
 Int), Go.Value.int Go.IntKind.i64 (0 : Int), Go.Value.slice Option.none (0 : Nat) (0 : Nat), Go.Value.slice Option.none (0 : Nat) (0 : Nat), Go.Value.slice Option.none (0 : Nat) (0 : Nat),
 Go.Value.slice Option.none (0 : Nat) (0 : Nat), Go.Value.slice Option.none (0 : Nat) (0 : Nat), Go.Value.slice (Option.some (Go.Addr.mk g (0 : Nat) Option.none)) (1 : Nat) (1 : Nat)] w'_1 ∧ ∀ (w' :
 Go.World), w' = Go.Sx.setAll (Go.Addr.mk g_1 (0 : Nat) Option.none) (0 : Nat) [Go.Value.int Go.IntKind.i64 (1 : Int), Go.Value.int Go.IntKind.i64 (1 : Int), Go.Value.int Go.IntKind.i64 (0 : Int),
 Go.Value.slice Option.none (0 : Nat) (0 : Nat), Go.Value.slice Option.none (0 : Nat) (0 : Nat), Go.Value.slice Option.none (0 : Nat) (0 : Nat), Go.Value.slice Option.none (0 : Nat) (0 : Nat),
 Go.Value.slice Option.none (0 : Nat) (0 : Nat), Go.Value.slice (Option.some (Go.Addr.mk g (0 : Nat) Option.none)) (1 : Nat) (1 : Nat)] w'_1 → ∃ (S : Go.World → Prop), S (Go.World.drew w') ∧ ∃ (x :
 Int), (∀ (u : Go.World), S u → Go.World.cell? u (Go.Addr.add (Go.Addr.mk g_1 (0 : Nat) Option.none) (0 : Nat)) = Option.some (Go.Value.int Go.IntKind.i64 x)) ∧ ∃ (x_1 : Int), (∀ (u : Go.World), S u →
 Go.World.cell? u (Go.Addr.add (Go.Addr.mk g_1 (0 : Nat) Option.none) (1 : Nat)) = Option.some (Go.Value.int Go.IntKind.i64 x_1)) ∧ ∃ (x_2 : Int), (∀ (u : Go.World), S u → Go.World.cell? u (Go.Addr.add
 (Go.Addr.mk g_1 (0 : Nat) Option.none) (2 : Nat)) = Option.some (Go.Value.int Go.IntKind.i64 x_2)) ∧ ∃ (x_3 : Option Go.Addr), ∃ (x_4 : Nat), ∃ (x_5 : Nat), (∀ (u : Go.World), S u → Go.World.cell? u
 (Go.Addr.add (Go.Addr.mk g_1 (0 : Nat) Option.none) (3 : Nat)) = Option.some (Go.Value.slice x_3 x_4 x_5)) ∧ ∃ (x_6 : Option Go.Addr), ∃ (x_7 : Nat), ∃ (x_8 : Nat), (∀ (u : Go.World), S u →
 Go.World.cell? u (Go.Addr.add (Go.Addr.mk g_1 (0 : Nat) Option.none) (4 : Nat)) = Option.some (Go.Value.slice x_6 x_7 x_8)) ∧ ∃ (x_9 : Option Go.Addr), ∃ (x_10 : Nat), ∃ (x_11 : Nat), (∀ (u :
 Go.World), S u → Go.World.cell? u (Go.Addr.add (Go.Addr.mk g_1 (0 : Nat) Option.none) (5 : Nat)) = Option.some (Go.Value.slice x_9 x_10 x_11)) ∧ ∃ (x_12 : Option Go.Addr), ∃ (x_13 : Nat), ∃ (x_14 :
 Nat), (∀ (u : Go.World), S u → Go.World.cell? u (Go.Addr.add (Go.Addr.mk g_1 (0 : Nat) Option.none) (6 : Nat)) = Option.some (Go.Value.slice x_12 x_13 x_14)) ∧ ∃ (x_15 : Option Go.Addr), ∃ (x_16 :
 Nat), ∃ (x_17 : Nat), (∀ (u : Go.World), S u → Go.World.cell? u (Go.Addr.add (Go.Addr.mk g_1 (0 : Nat) Option.none) (7 : Nat)) = Option.some (Go.Value.slice x_15 x_16 x_17)) ∧ ∃ (x_18 : Option
 Go.Addr), ∃ (x_19 : Nat), ∃ (x_20 : Nat), (∀ (u : Go.World), S u → Go.World.cell? u (Go.Addr.add (Go.Addr.mk g_1 (0 : Nat) Option.none) (8 : Nat)) = Option.some (Go.Value.slice x_18 x_19 x_20)) ∧ ∃
 (x_21 : Int), (∀ (u : Go.World), S u → Go.World.cell? u (Go.Addr.add (Go.Addr.mk g_1 (0 : Nat) Option.none) (0 : Nat)) = Option.some (Go.Value.int Go.IntKind.i64 x_21)) ∧ ∃ (x_22 : Int), (∀ (u :
 Go.World), S u → Go.World.cell? u (Go.Addr.add (Go.Addr.mk g_1 (0 : Nat) Option.none) (1 : Nat)) = Option.some (Go.Value.int Go.IntKind.i64 x_22)) ∧ ∃ (x_23 : Int), (∀ (u : Go.World), S u →
 Go.World.cell? u (Go.Addr.add (Go.Addr.mk g_1 (0 : Nat) Option.none) (2 : Nat)) = Option.some (Go.Value.int Go.IntKind.i64 x_23)) ∧ ∃ (x_24 : Option Go.Addr), ∃ (x_25 : Nat), ∃ (x_26 : Nat), (∀ (u :
 Go.World), S u → Go.World.cell? u (Go.Addr.add (Go.Addr.mk g_1 (0 : Nat) Option.none) (3 : Nat)) = Option.some (Go.Value.slice x_24 x_25 x_26)) ∧ ∃ (x_27 : Option Go.Addr), ∃ (x_28 : Nat), ∃ (x_29 :
 Nat), (∀ (u : Go.World), S u → Go.World.cell? u (Go.Addr.add (Go.Addr.mk g_1 (0 : Nat) Option.none) (4 : Nat)) = Option.some (Go.Value.slice x_27 x_28 x_29)) ∧ ∃ (x_30 : Option Go.Addr), ∃ (x_31 :
 Nat), ∃ (x_32 : Nat), (∀ (u : Go.World), S u → Go.World.cell? u (Go.Addr.add (Go.Addr.mk g_1 (0 : Nat) Option.none) (5 : Nat)) = Option.some (Go.Value.slice x_30 x_31 x_32)) ∧ ∃ (x_33 : Option
 Go.Addr), ∃ (x_34 : Nat), ∃ (x_35 : Nat), (∀ (u : Go.World), S u → Go.World.cell? u (Go.Addr.add (Go.Addr.mk g_1 (0 : Nat) Option.none) (6 : Nat)) = Option.some (Go.Value.slice x_33 x_34 x_35)) ∧ ∃
 (x_36 : Option Go.Addr), ∃ (x_37 : Nat), ∃ (x_38 : Nat), (∀ (u : Go.World), S u → Go.World.cell? u (Go.Addr.add (Go.Addr.mk g_1 (0 : Nat) Option.none) (7 : Nat)) = Option.some (Go.Value.slice x_36 x_37
 x_38)) ∧ ∃ (x_39 : Option Go.Addr), ∃ (x_40 : Nat), ∃ (x_41 : Nat), (∀ (u : Go.World), S u → Go.World.cell? u (Go.Addr.add (Go.Addr.mk g_1 (0 : Nat) Option.none) (8 : Nat)) = Option.some
 (Go.Value.slice x_39 x_40 x_41)) ∧ (∀ (g : Nat) (w'_2 : Go.World), Go.Sx.Fresh (Go.World.drew w') g w'_2 [Go.Value.int Go.IntKind.i64 (0 : Int), Go.Value.int Go.IntKind.i64 (0 : Int), Go.Value.int
 Go.IntKind.i64 (0 : Int), Go.Value.slice Option.none (0 : Nat) (0 : Nat), Go.Value.slice Option.none (0 : Nat) (0 : Nat), Go.Value.slice Option.none (0 : Nat) (0 : Nat), Go.Value.slice Option.none (0 :
 Nat) (0 : Nat), Go.Value.slice Option.none (0 : Nat) (0 : Nat), Go.Value.slice Option.none (0 : Nat) (0 : Nat)] (29 : Nat) → S w'_2 ∧ ∀ (g_2 : Nat) (w' : Go.World), Go.Sx.Fresh w'_2 g_2 w'
 [Go.Value.int Go.IntKind.i64 (0 : Int), Go.Value.int Go.IntKind.i64 (0 : Int), Go.Value.int Go.IntKind.i64 (0 : Int), Go.Value.slice Option.none (0 : Nat) (0 : Nat), Go.Value.slice Option.none (0 :
 Nat) (0 : Nat), Go.Value.slice Option.none (0 : Nat) (0 : Nat), Go.Value.slice Option.none (0 : Nat) (0 : Nat), Go.Value.slice Option.none (0 : Nat) (0 : Nat), Go.Value.slice Option.none (0 : Nat) (0 :
 Nat)] (29 : Nat) → S w' ∧ Go.Sx.stOK (Go.Addr.mk g (0 : Nat) Option.none) (0 : Nat) [Go.Value.int Go.IntKind.i64 x, Go.Value.int Go.IntKind.i64 x_1, Go.Value.int Go.IntKind.i64 x_2, Go.Value.slice x_3
 x_4 x_5, Go.Value.slice x_6 x_7 x_8, Go.Value.slice x_9 x_10 x_11, Go.Value.slice x_12 x_13 x_14, Go.Value.slice x_15 x_16 x_17, Go.Value.slice x_18 x_19 x_20] w' ∧ ∀ (w'_3 : Go.World), w'_3 =
 Go.Sx.setAll (Go.Addr.mk g (0 : Nat) Option.none) (0 : Nat) [Go.Value.int Go.IntKind.i64 x, Go.Value.int Go.IntKind.i64 x_1, Go.Value.int Go.IntKind.i64 x_2, Go.Value.slice x_3 x_4 x_5, Go.Value.slice
 x_6 x_7 x_8, Go.Value.slice x_9 x_10 x_11, Go.Value.slice x_12 x_13 x_14, Go.Value.slice x_15 x_16 x_17, Go.Value.slice x_18 x_19 x_20] w' → S w'_3 ∧ Go.Sx.stOK (Go.Addr.mk g_2 (0 : Nat) Option.none)
 (0 : Nat) [Go.Value.int Go.IntKind.i64 x_21, Go.Value.int Go.IntKind.i64 x_22, Go.Value.int Go.IntKind.i64 x_23, Go.Value.slice x_24 x_25 x_26, Go.Value.slice x_27 x_28 x_29, Go.Value.slice x_30 x_31
 x_32, Go.Value.slice x_33 x_34 x_35, Go.Value.slice x_36 x_37 x_38, Go.Value.slice x_39 x_40 x_41] w'_3 ∧ ∀ (w' : Go.World), w' = Go.Sx.setAll (Go.Addr.mk g_2 (0 : Nat) Option.none) (0 : Nat)
 [Go.Value.int Go.IntKind.i64 x_21, Go.Value.int Go.IntKind.i64 x_22, Go.Value.int Go.IntKind.i64 x_23, Go.Value.slice x_24 x_25 x_26, Go.Value.slice x_27 x_28 x_29, Go.Value.slice x_30 x_31 x_32,
 Go.Value.slice x_33 x_34 x_35, Go.Value.slice x_36 x_37 x_38, Go.Value.slice x_39 x_40 x_41] w'_3 → ∀ (g_3 : Nat) (w'_4 : Go.World), Go.Sx.Fresh w' g_3 w'_4 [Go.Value.int Go.IntKind.u8 (10 : Int),
 Go.Value.int Go.IntKind.i64 (0 : Int), Go.Value.int Go.IntKind.i64 (0 : Int), Go.Value.int Go.IntKind.i64 (0 : Int), Go.Value.int Go.IntKind.i64 (0 : Int), Go.Value.int Go.IntKind.u8 (35 : Int),
 Go.Value.int Go.IntKind.i64 (0 : Int), Go.Value.int Go.IntKind.i64 (0 : Int), Go.Value.int Go.IntKind.i64 (0 : Int), Go.Value.int Go.IntKind.i64 (0 : Int)] (38 : Nat) → Go.Sx.stOK (Go.Addr.add
 (Go.Addr.mk g (0 : Nat) Option.none) (8 : Nat)) (0 : Nat) [Go.Value.slice (Option.some (Go.Addr.mk g_3 (0 : Nat) Option.none)) (2 : Nat) (2 : Nat)] w'_4 ∧ ∀ (w' : Go.World), w' = Go.Sx.setAll
 (Go.Addr.add (Go.Addr.mk g (0 : Nat) Option.none) (8 : Nat)) (0 : Nat) [Go.Value.slice (Option.some (Go.Addr.mk g_3 (0 : Nat) Option.none)) (2 : Nat) (2 : Nat)] w'_4 → ∀ (g_4 : Nat) (w'_5 : Go.World),
 Go.Sx.Fresh w' g_4 w'_5 [Go.Value.int Go.IntKind.u8 (10 : Int), Go.Value.int Go.IntKind.i64 (1 : Int), Go.Value.int Go.IntKind.i64 (0 : Int), Go.Value.int Go.IntKind.i64 (0 : Int), Go.Value.int
 Go.IntKind.i64 (0 : Int), Go.Value.int Go.IntKind.u8 (35 : Int), Go.Value.int Go.IntKind.i64 (0 : Int), Go.Value.int Go.IntKind.i64 (0 : Int), Go.Value.int Go.IntKind.i64 (0 : Int), Go.Value.int
 Go.IntKind.i64 (0 : Int)] (38 : Nat) → Go.Sx.stOK (Go.Addr.add (Go.Addr.mk g_2 (0 : Nat) Option.none) (8 : Nat)) (0 : Nat) [Go.Value.slice (Option.some (Go.Addr.mk g_4 (0 : Nat) Option.none)) (2 : Nat)
 (2 : Nat)] w'_5 ∧ ∀ (w' : Go.World), w' = Go.Sx.setAll (Go.Addr.add (Go.Addr.mk g_2 (0 : Nat) Option.none) (8 : Nat)) (0 : Nat) [Go.Value.slice (Option.some (Go.Addr.mk g_4 (0 : Nat) Option.none)) (2 :
 Nat) (2 : Nat)] w'_5 → Go.Sx.CallsV Go.Proofs.Tryd.prog (11 : Nat) #[Go.Value.agg #[Go.Value.int Go.IntKind.u8 (4 : Int), Go.Value.int Go.IntKind.i64 (2 : Int), Go.Value.int Go.IntKind.i64 (0 : Int),
 Go.Value.int Go.IntKind.i64 (1 : Int), Go.Value.int Go.IntKind.i64 (6 : Int)]] w' fun (v : Go.Value) (w' : Go.World) => ∃ (x : ByteArray), v = Go.Value.string x ∧ bif ByteArray.toList x ==
 ByteArray.toList (ByteArray.mk #[(116 : UInt8), (119 : UInt8), (111 : UInt8), (32 : UInt8), (50 : UInt8), (32 : UInt8), (48 : UInt8), (32 : UInt8), (49 : UInt8), (32 : UInt8), (54 : UInt8)]) then ∃ (x
 : Int), Go.World.cell? w' (Go.Addr.add (Go.Addr.mk g_1 (0 : Nat) Option.none) (0 : Nat)) = Option.some (Go.Value.int Go.IntKind.i64 x) ∧ ∃ (x_42 : Int), Go.World.cell? w' (Go.Addr.add (Go.Addr.mk g_1
 (0 : Nat) Option.none) (1 : Nat)) = Option.some (Go.Value.int Go.IntKind.i64 x_42) ∧ ∃ (x_43 : Int), Go.World.cell? w' (Go.Addr.add (Go.Addr.mk g_1 (0 : Nat) Option.none) (2 : Nat)) = Option.some
 (Go.Value.int Go.IntKind.i64 x_43) ∧ ∃ (x_44 : Option Go.Addr), ∃ (x_45 : Nat), ∃ (x_46 : Nat), Go.World.cell? w' (Go.Addr.add (Go.Addr.mk g_1 (0 : Nat) Option.none) (3 : Nat)) = Option.some
 (Go.Value.slice x_44 x_45 x_46) ∧ ∃ (x_47 : Option Go.Addr), ∃ (x_48 : Nat), ∃ (x_49 : Nat), Go.World.cell? w' (Go.Addr.add (Go.Addr.mk g_1 (0 : Nat) Option.none) (4 : Nat)) = Option.some
 (Go.Value.slice x_47 x_48 x_49) ∧ ∃ (x_50 : Option Go.Addr), ∃ (x_51 : Nat), ∃ (x_52 : Nat), Go.World.cell? w' (Go.Addr.add (Go.Addr.mk g_1 (0 : Nat) Option.none) (5 : Nat)) = Option.some
 (Go.Value.slice x_50 x_51 x_52) ∧ ∃ (x_53 : Option Go.Addr), ∃ (x_54 : Nat), ∃ (x_55 : Nat), Go.World.cell? w' (Go.Addr.add (Go.Addr.mk g_1 (0 : Nat) Option.none) (6 : Nat)) = Option.some
 (Go.Value.slice x_53 x_54 x_55) ∧ ∃ (x_56 : Option Go.Addr), ∃ (x_57 : Nat), ∃ (x_58 : Nat), Go.World.cell? w' (Go.Addr.add (Go.Addr.mk g_1 (0 : Nat) Option.none) (7 : Nat)) = Option.some
 (Go.Value.slice x_56 x_57 x_58) ∧ ∃ (x_59 : Option Go.Addr), ∃ (x_60 : Nat), ∃ (x_61 : Nat), Go.World.cell? w' (Go.Addr.add (Go.Addr.mk g_1 (0 : Nat) Option.none) (8 : Nat)) = Option.some
 (Go.Value.slice x_59 x_60 x_61) ∧ Go.Sx.CallsV Go.Proofs.Tryd.prog (8 : Nat) #[Go.Value.agg #[Go.Value.int Go.IntKind.i64 x, Go.Value.int Go.IntKind.i64 x_42, Go.Value.int Go.IntKind.i64 x_43,
 Go.Value.slice x_44 x_45 x_46, Go.Value.slice x_47 x_48 x_49, Go.Value.slice x_50 x_51 x_52, Go.Value.slice x_53 x_54 x_55, Go.Value.slice x_56 x_57 x_58, Go.Value.slice x_59 x_60 x_61]] w' fun (v :
 Go.Value) (w' : Go.World) => ∃ (x : Int), v = Go.Value.int Go.IntKind.i64 x ∧ bif Decidable.decide (x = (0 : Int)) then ∃ (x : Int), Go.World.cell? w' (Go.Addr.add (Go.Addr.mk g (0 : Nat) Option.none)
 (0 : Nat)) = Option.some (Go.Value.int Go.IntKind.i64 x) ∧ ∃ (x_62 : Int), Go.World.cell? w' (Go.Addr.add (Go.Addr.mk g (0 : Nat) Option.none) (1 : Nat)) = Option.some (Go.Value.int Go.IntKind.i64
 x_62) ∧ ∃ (x_63 : Int), Go.World.cell? w' (Go.Addr.add (Go.Addr.mk g (0 : Nat) Option.none) (2 : Nat)) = Option.some (Go.Value.int Go.IntKind.i64 x_63) ∧ ∃ (x_64 : Option Go.Addr), ∃ (x_65 : Nat), ∃
 (x_66 : Nat), Go.World.cell? w' (Go.Addr.add (Go.Addr.mk g (0 : Nat) Option.none) (3 : Nat)) = Option.some (Go.Value.slice x_64 x_65 x_66) ∧ ∃ (x_67 : Option Go.Addr), ∃ (x_68 : Nat), ∃ (x_69 : Nat),
 Go.World.cell? w' (Go.Addr.add (Go.Addr.mk g (0 : Nat) Option.none) (4 : Nat)) = Option.some (Go.Value.slice x_67 x_68 x_69) ∧ ∃ (x_70 : Option Go.Addr), ∃ (x_71 : Nat), ∃ (x_72 : Nat), Go.World.cell?
 w' (Go.Addr.add (Go.Addr.mk g (0 : Nat) Option.none) (5 : Nat)) = Option.some (Go.Value.slice x_70 x_71 x_72) ∧ ∃ (x_73 : Option Go.Addr), ∃ (x_74 : Nat), ∃ (x_75 : Nat), Go.World.cell? w' (Go.Addr.add
 (Go.Addr.mk g (0 : Nat) Option.none) (6 : Nat)) = Option.some (Go.Value.slice x_73 x_74 x_75) ∧ ∃ (x_76 : Option Go.Addr), ∃ (x_77 : Nat), ∃ (x_78 : Nat), Go.World.cell? w' (Go.Addr.add (Go.Addr.mk g
 (0 : Nat) Option.none) (7 : Nat)) = Option.some (Go.Value.slice x_76 x_77 x_78) ∧ ∃ (x_79 : Option Go.Addr), ∃ (x_80 : Nat), ∃ (x_81 : Nat), Go.World.cell? w' (Go.Addr.add (Go.Addr.mk g (0 : Nat)
 Option.none) (8 : Nat)) = Option.some (Go.Value.slice x_79 x_80 x_81) ∧ Go.Sx.CallsV Go.Proofs.Tryd.prog (8 : Nat) #[Go.Value.agg #[Go.Value.int Go.IntKind.i64 x, Go.Value.int Go.IntKind.i64 x_62,
 Go.Value.int Go.IntKind.i64 x_63, Go.Value.slice x_64 x_65 x_66, Go.Value.slice x_67 x_68 x_69, Go.Value.slice x_70 x_71 x_72, Go.Value.slice x_73 x_74 x_75, Go.Value.slice x_76 x_77 x_78,
 Go.Value.slice x_79 x_80 x_81]] w' fun (v : Go.Value) (w' : Go.World) => ∃ (x : Int), v = Go.Value.int Go.IntKind.i64 x ∧ bif Decidable.decide (x = (140 : Int)) then ∃ (x : Int), Go.World.cell? w'
 (Go.Addr.add (Go.Addr.mk g_2 (0 : Nat) Option.none) (0 : Nat)) = Option.some (Go.Value.int Go.IntKind.i64 x) ∧ ∃ (x_82 : Int), Go.World.cell? w' (Go.Addr.add (Go.Addr.mk g_2 (0 : Nat) Option.none) (1 :
 Nat)) = Option.some (Go.Value.int Go.IntKind.i64 x_82) ∧ ∃ (x_83 : Int), Go.World.cell? w' (Go.Addr.add (Go.Addr.mk g_2 (0 : Nat) Option.none) (2 : Nat)) = Option.some (Go.Value.int Go.IntKind.i64
 x_83) ∧ ∃ (x_84 : Option Go.Addr), ∃ (x_85 : Nat), ∃ (x_86 : Nat), Go.World.cell? w' (Go.Addr.add (Go.Addr.mk g_2 (0 : Nat) Option.none) (3 : Nat)) = Option.some (Go.Value.slice x_84 x_85 x_86) ∧ ∃
 (x_87 : Option Go.Addr), ∃ (x_88 : Nat), ∃ (x_89 : Nat), Go.World.cell? w' (Go.Addr.add (Go.Addr.mk g_2 (0 : Nat) Option.none) (4 : Nat)) = Option.some (Go.Value.slice x_87 x_88 x_89) ∧ ∃ (x_90 :
 Option Go.Addr), ∃ (x_91 : Nat), ∃ (x_92 : Nat), Go.World.cell? w' (Go.Addr.add (Go.Addr.mk g_2 (0 : Nat) Option.none) (5 : Nat)) = Option.some (Go.Value.slice x_90 x_91 x_92) ∧ ∃ (x_93 : Option
 Go.Addr), ∃ (x_94 : Nat), ∃ (x_95 : Nat), Go.World.cell? w' (Go.Addr.add (Go.Addr.mk g_2 (0 : Nat) Option.none) (6 : Nat)) = Option.some (Go.Value.slice x_93 x_94 x_95) ∧ ∃ (x_96 : Option Go.Addr), ∃
 (x_97 : Nat), ∃ (x_98 : Nat), Go.World.cell? w' (Go.Addr.add (Go.Addr.mk g_2 (0 : Nat) Option.none) (7 : Nat)) = Option.some (Go.Value.slice x_96 x_97 x_98) ∧ ∃ (x_99 : Option Go.Addr), ∃ (x_100 :
 Nat), ∃ (x_101 : Nat), Go.World.cell? w' (Go.Addr.add (Go.Addr.mk g_2 (0 : Nat) Option.none) (8 : Nat)) = Option.some (Go.Value.slice x_99 x_100 x_101) ∧ Go.Sx.CallsV Go.Proofs.Tryd.prog (8 : Nat)
 #[Go.Value.agg #[Go.Value.int Go.IntKind.i64 x, Go.Value.int Go.IntKind.i64 x_82, Go.Value.int Go.IntKind.i64 x_83, Go.Value.slice x_84 x_85 x_86, Go.Value.slice x_87 x_88 x_89, Go.Value.slice x_90
 x_91 x_92, Go.Value.slice x_93 x_94 x_95, Go.Value.slice x_96 x_97 x_98, Go.Value.slice x_99 x_100 x_101]] w' fun (v : Go.Value) (w' : Go.World) => ∃ (x : Int), v = Go.Value.int Go.IntKind.i64 x ∧ K
 (Go.Value.bool (Decidable.decide (x = (0 : Int)))) w' else K (Go.Value.bool Bool.false) w' else K (Go.Value.bool Bool.false) w' else K (Go.Value.bool Bool.false) w') ∧ ∀ (g : Nat) (w'_2 : Go.World),
 Go.Sx.Fresh (Go.World.drew w') g w'_2 [Go.Value.int Go.IntKind.i64 (0 : Int), Go.Value.int Go.IntKind.i64 (0 : Int), Go.Value.int Go.IntKind.i64 (0 : Int), Go.Value.slice Option.none (0 : Nat) (0 :
 Nat), Go.Value.slice Option.none (0 : Nat) (0 : Nat), Go.Value.slice Option.none (0 : Nat) (0 : Nat), Go.Value.slice Option.none (0 : Nat) (0 : Nat), Go.Value.slice Option.none (0 : Nat) (0 : Nat),
 Go.Value.slice Option.none (0 : Nat) (0 : Nat)] (29 : Nat) → S w'_2 ∧ ∀ (g_2 : Nat) (w' : Go.World), Go.Sx.Fresh w'_2 g_2 w' [Go.Value.int Go.IntKind.i64 (0 : Int), Go.Value.int Go.IntKind.i64 (0 :
 Int), Go.Value.int Go.IntKind.i64 (0 : Int), Go.Value.slice Option.none (0 : Nat) (0 : Nat), Go.Value.slice Option.none (0 : Nat) (0 : Nat), Go.Value.slice Option.none (0 : Nat) (0 : Nat),
 Go.Value.slice Option.none (0 : Nat) (0 : Nat), Go.Value.slice Option.none (0 : Nat) (0 : Nat), Go.Value.slice Option.none (0 : Nat) (0 : Nat)] (29 : Nat) → S w' ∧ Go.Sx.stOK (Go.Addr.mk g_2 (0 : Nat)
 Option.none) (0 : Nat) [Go.Value.int Go.IntKind.i64 x, Go.Value.int Go.IntKind.i64 x_1, Go.Value.int Go.IntKind.i64 x_2, Go.Value.slice x_3 x_4 x_5, Go.Value.slice x_6 x_7 x_8, Go.Value.slice x_9 x_10
 x_11, Go.Value.slice x_12 x_13 x_14, Go.Value.slice x_15 x_16 x_17, Go.Value.slice x_18 x_19 x_20] w' ∧ ∀ (w'_3 : Go.World), w'_3 = Go.Sx.setAll (Go.Addr.mk g_2 (0 : Nat) Option.none) (0 : Nat)
 [Go.Value.int Go.IntKind.i64 x, Go.Value.int Go.IntKind.i64 x_1, Go.Value.int Go.IntKind.i64 x_2, Go.Value.slice x_3 x_4 x_5, Go.Value.slice x_6 x_7 x_8, Go.Value.slice x_9 x_10 x_11, Go.Value.slice
 x_12 x_13 x_14, Go.Value.slice x_15 x_16 x_17, Go.Value.slice x_18 x_19 x_20] w' → S w'_3 ∧ Go.Sx.stOK (Go.Addr.mk g (0 : Nat) Option.none) (0 : Nat) [Go.Value.int Go.IntKind.i64 x_21, Go.Value.int
 Go.IntKind.i64 x_22, Go.Value.int Go.IntKind.i64 x_23, Go.Value.slice x_24 x_25 x_26, Go.Value.slice x_27 x_28 x_29, Go.Value.slice x_30 x_31 x_32, Go.Value.slice x_33 x_34 x_35, Go.Value.slice x_36
 x_37 x_38, Go.Value.slice x_39 x_40 x_41] w'_3 ∧ ∀ (w' : Go.World), w' = Go.Sx.setAll (Go.Addr.mk g (0 : Nat) Option.none) (0 : Nat) [Go.Value.int Go.IntKind.i64 x_21, Go.Value.int Go.IntKind.i64 x_22,
 Go.Value.int Go.IntKind.i64 x_23, Go.Value.slice x_24 x_25 x_26, Go.Value.slice x_27 x_28 x_29, Go.Value.slice x_30 x_31 x_32, Go.Value.slice x_33 x_34 x_35, Go.Value.slice x_36 x_37 x_38,
 Go.Value.slice x_39 x_40 x_41] w'_3 → ∀ (g_3 : Nat) (w'_4 : Go.World), Go.Sx.Fresh w' g_3 w'_4 [Go.Value.int Go.IntKind.u8 (10 : Int), Go.Value.int Go.IntKind.i64 (0 : Int), Go.Value.int Go.IntKind.i64
 (0 : Int), Go.Value.int Go.IntKind.i64 (0 : Int), Go.Value.int Go.IntKind.i64 (0 : Int), Go.Value.int Go.IntKind.u8 (35 : Int), Go.Value.int Go.IntKind.i64 (0 : Int), Go.Value.int Go.IntKind.i64 (0 :
 Int), Go.Value.int Go.IntKind.i64 (0 : Int), Go.Value.int Go.IntKind.i64 (0 : Int)] (38 : Nat) → Go.Sx.stOK (Go.Addr.add (Go.Addr.mk g_2 (0 : Nat) Option.none) (8 : Nat)) (0 : Nat) [Go.Value.slice
 (Option.some (Go.Addr.mk g_3 (0 : Nat) Option.none)) (2 : Nat) (2 : Nat)] w'_4 ∧ ∀ (w' : Go.World), w' = Go.Sx.setAll (Go.Addr.add (Go.Addr.mk g_2 (0 : Nat) Option.none) (8 : Nat)) (0 : Nat)
 [Go.Value.slice (Option.some (Go.Addr.mk g_3 (0 : Nat) Option.none)) (2 : Nat) (2 : Nat)] w'_4 → ∀ (g_4 : Nat) (w'_5 : Go.World), Go.Sx.Fresh w' g_4 w'_5 [Go.Value.int Go.IntKind.u8 (10 : Int),
 Go.Value.int Go.IntKind.i64 (1 : Int), Go.Value.int Go.IntKind.i64 (0 : Int), Go.Value.int Go.IntKind.i64 (0 : Int), Go.Value.int Go.IntKind.i64 (0 : Int), Go.Value.int Go.IntKind.u8 (35 : Int),
 Go.Value.int Go.IntKind.i64 (0 : Int), Go.Value.int Go.IntKind.i64 (0 : Int), Go.Value.int Go.IntKind.i64 (0 : Int), Go.Value.int Go.IntKind.i64 (0 : Int)] (38 : Nat) → Go.Sx.stOK (Go.Addr.add
 (Go.Addr.mk g (0 : Nat) Option.none) (8 : Nat)) (0 : Nat) [Go.Value.slice (Option.some (Go.Addr.mk g_4 (0 : Nat) Option.none)) (2 : Nat) (2 : Nat)] w'_5 ∧ ∀ (w' : Go.World), w' = Go.Sx.setAll
 (Go.Addr.add (Go.Addr.mk g (0 : Nat) Option.none) (8 : Nat)) (0 : Nat) [Go.Value.slice (Option.some (Go.Addr.mk g_4 (0 : Nat) Option.none)) (2 : Nat) (2 : Nat)] w'_5 → Go.Sx.CallsV Go.Proofs.Tryd.prog
 (11 : Nat) #[Go.Value.agg #[Go.Value.int Go.IntKind.u8 (4 : Int), Go.Value.int Go.IntKind.i64 (2 : Int), Go.Value.int Go.IntKind.i64 (0 : Int), Go.Value.int Go.IntKind.i64 (1 : Int), Go.Value.int
 Go.IntKind.i64 (6 : Int)]] w' fun (v : Go.Value) (w' : Go.World) => ∃ (x : ByteArray), v = Go.Value.string x ∧ bif ByteArray.toList x == ByteArray.toList (ByteArray.mk #[(116 : UInt8), (119 : UInt8),
 (111 : UInt8), (32 : UInt8), (50 : UInt8), (32 : UInt8), (48 : UInt8), (32 : UInt8), (49 : UInt8), (32 : UInt8), (54 : UInt8)]) then ∃ (x : Int), Go.World.cell? w' (Go.Addr.add (Go.Addr.mk g_1 (0 :
 Nat) Option.none) (0 : Nat)) = Option.some (Go.Value.int Go.IntKind.i64 x) ∧ ∃ (x_42 : Int), Go.World.cell? w' (Go.Addr.add (Go.Addr.mk g_1 (0 : Nat) Option.none) (1 : Nat)) = Option.some (Go.Value.int
 Go.IntKind.i64 x_42) ∧ ∃ (x_43 : Int), Go.World.cell? w' (Go.Addr.add (Go.Addr.mk g_1 (0 : Nat) Option.none) (2 : Nat)) = Option.some (Go.Value.int Go.IntKind.i64 x_43) ∧ ∃ (x_44 : Option Go.Addr), ∃
 (x_45 : Nat), ∃ (x_46 : Nat), Go.World.cell? w' (Go.Addr.add (Go.Addr.mk g_1 (0 : Nat) Option.none) (3 : Nat)) = Option.some (Go.Value.slice x_44 x_45 x_46) ∧ ∃ (x_47 : Option Go.Addr), ∃ (x_48 : Nat),
 ∃ (x_49 : Nat), Go.World.cell? w' (Go.Addr.add (Go.Addr.mk g_1 (0 : Nat) Option.none) (4 : Nat)) = Option.some (Go.Value.slice x_47 x_48 x_49) ∧ ∃ (x_50 : Option Go.Addr), ∃ (x_51 : Nat), ∃ (x_52 :
 Nat), Go.World.cell? w' (Go.Addr.add (Go.Addr.mk g_1 (0 : Nat) Option.none) (5 : Nat)) = Option.some (Go.Value.slice x_50 x_51 x_52) ∧ ∃ (x_53 : Option Go.Addr), ∃ (x_54 : Nat), ∃ (x_55 : Nat),
 Go.World.cell? w' (Go.Addr.add (Go.Addr.mk g_1 (0 : Nat) Option.none) (6 : Nat)) = Option.some (Go.Value.slice x_53 x_54 x_55) ∧ ∃ (x_56 : Option Go.Addr), ∃ (x_57 : Nat), ∃ (x_58 : Nat),
 Go.World.cell? w' (Go.Addr.add (Go.Addr.mk g_1 (0 : Nat) Option.none) (7 : Nat)) = Option.some (Go.Value.slice x_56 x_57 x_58) ∧ ∃ (x_59 : Option Go.Addr), ∃ (x_60 : Nat), ∃ (x_61 : Nat),
 Go.World.cell? w' (Go.Addr.add (Go.Addr.mk g_1 (0 : Nat) Option.none) (8 : Nat)) = Option.some (Go.Value.slice x_59 x_60 x_61) ∧ Go.Sx.CallsV Go.Proofs.Tryd.prog (8 : Nat) #[Go.Value.agg #[Go.Value.int
 Go.IntKind.i64 x, Go.Value.int Go.IntKind.i64 x_42, Go.Value.int Go.IntKind.i64 x_43, Go.Value.slice x_44 x_45 x_46, Go.Value.slice x_47 x_48 x_49, Go.Value.slice x_50 x_51 x_52, Go.Value.slice x_53
 x_54 x_55, Go.Value.slice x_56 x_57 x_58, Go.Value.slice x_59 x_60 x_61]] w' fun (v : Go.Value) (w' : Go.World) => ∃ (x : Int), v = Go.Value.int Go.IntKind.i64 x ∧ bif Decidable.decide (x = (0 : Int))
 then ∃ (x : Int), Go.World.cell? w' (Go.Addr.add (Go.Addr.mk g_2 (0 : Nat) Option.none) (0 : Nat)) = Option.some (Go.Value.int Go.IntKind.i64 x) ∧ ∃ (x_62 : Int), Go.World.cell? w' (Go.Addr.add
 (Go.Addr.mk g_2 (0 : Nat) Option.none) (1 : Nat)) = Option.some (Go.Value.int Go.IntKind.i64 x_62) ∧ ∃ (x_63 : Int), Go.World.cell? w' (Go.Addr.add (Go.Addr.mk g_2 (0 : Nat) Option.none) (2 : Nat)) =
 Option.some (Go.Value.int Go.IntKind.i64 x_63) ∧ ∃ (x_64 : Option Go.Addr), ∃ (x_65 : Nat), ∃ (x_66 : Nat), Go.World.cell? w' (Go.Addr.add (Go.Addr.mk g_2 (0 : Nat) Option.none) (3 : Nat)) =
 Option.some (Go.Value.slice x_64 x_65 x_66) ∧ ∃ (x_67 : Option Go.Addr), ∃ (x_68 : Nat), ∃ (x_69 : Nat), Go.World.cell? w' (Go.Addr.add (Go.Addr.mk g_2 (0 : Nat) Option.none) (4 : Nat)) = Option.some
 (Go.Value.slice x_67 x_68 x_69) ∧ ∃ (x_70 : Option Go.Addr), ∃ (x_71 : Nat), ∃ (x_72 : Nat), Go.World.cell? w' (Go.Addr.add (Go.Addr.mk g_2 (0 : Nat) Option.none) (5 : Nat)) = Option.some
 (Go.Value.slice x_70 x_71 x_72) ∧ ∃ (x_73 : Option Go.Addr), ∃ (x_74 : Nat), ∃ (x_75 : Nat), Go.World.cell? w' (Go.Addr.add (Go.Addr.mk g_2 (0 : Nat) Option.none) (6 : Nat)) = Option.some
 (Go.Value.slice x_73 x_74 x_75) ∧ ∃ (x_76 : Option Go.Addr), ∃ (x_77 : Nat), ∃ (x_78 : Nat), Go.World.cell? w' (Go.Addr.add (Go.Addr.mk g_2 (0 : Nat) Option.none) (7 : Nat)) = Option.some
 (Go.Value.slice x_76 x_77 x_78) ∧ ∃ (x_79 : Option Go.Addr), ∃ (x_80 : Nat), ∃ (x_81 : Nat), Go.World.cell? w' (Go.Addr.add (Go.Addr.mk g_2 (0 : Nat) Option.none) (8 : Nat)) = Option.some
 (Go.Value.slice x_79 x_80 x_81) ∧ Go.Sx.CallsV Go.Proofs.Tryd.prog (8 : Nat) #[Go.Value.agg #[Go.Value.int Go.IntKind.i64 x, Go.Value.int Go.IntKind.i64 x_62, Go.Value.int Go.IntKind.i64 x_63,
 Go.Value.slice x_64 x_65 x_66, Go.Value.slice x_67 x_68 x_69, Go.Value.slice x_70 x_71 x_72, Go.Value.slice x_73 x_74 x_75, Go.Value.slice x_76 x_77 x_78, Go.Value.slice x_79 x_80 x_81]] w' fun (v :
 Go.Value) (w' : Go.World) => ∃ (x : Int), v = Go.Value.int Go.IntKind.i64 x ∧ bif Decidable.decide (x = (140 : Int)) then ∃ (x : Int), Go.World.cell? w' (Go.Addr.add (Go.Addr.mk g (0 : Nat)
 Option.none) (0 : Nat)) = Option.some (Go.Value.int Go.IntKind.i64 x) ∧ ∃ (x_82 : Int), Go.World.cell? w' (Go.Addr.add (Go.Addr.mk g (0 : Nat) Option.none) (1 : Nat)) = Option.some (Go.Value.int
 Go.IntKind.i64 x_82) ∧ ∃ (x_83 : Int), Go.World.cell? w' (Go.Addr.add (Go.Addr.mk g (0 : Nat) Option.none) (2 : Nat)) = Option.some (Go.Value.int Go.IntKind.i64 x_83) ∧ ∃ (x_84 : Option Go.Addr), ∃
 (x_85 : Nat), ∃ (x_86 : Nat), Go.World.cell? w' (Go.Addr.add (Go.Addr.mk g (0 : Nat) Option.none) (3 : Nat)) = Option.some (Go.Value.slice x_84 x_85 x_86) ∧ ∃ (x_87 : Option Go.Addr), ∃ (x_88 : Nat), ∃
 (x_89 : Nat), Go.World.cell? w' (Go.Addr.add (Go.Addr.mk g (0 : Nat) Option.none) (4 : Nat)) = Option.some (Go.Value.slice x_87 x_88 x_89) ∧ ∃ (x_90 : Option Go.Addr), ∃ (x_91 : Nat), ∃ (x_92 : Nat),
 Go.World.cell? w' (Go.Addr.add (Go.Addr.mk g (0 : Nat) Option.none) (5 : Nat)) = Option.some (Go.Value.slice x_90 x_91 x_92) ∧ ∃ (x_93 : Option Go.Addr), ∃ (x_94 : Nat), ∃ (x_95 : Nat), Go.World.cell?
 w' (Go.Addr.add (Go.Addr.mk g (0 : Nat) Option.none) (6 : Nat)) = Option.some (Go.Value.slice x_93 x_94 x_95) ∧ ∃ (x_96 : Option Go.Addr), ∃ (x_97 : Nat), ∃ (x_98 : Nat), Go.World.cell? w' (Go.Addr.add
 (Go.Addr.mk g (0 : Nat) Option.none) (7 : Nat)) = Option.some (Go.Value.slice x_96 x_97 x_98) ∧ ∃ (x_99 : Option Go.Addr), ∃ (x_100 : Nat), ∃ (x_101 : Nat), Go.World.cell? w' (Go.Addr.add (Go.Addr.mk g
 (0 : Nat) Option.none) (8 : Nat)) = Option.some (Go.Value.slice x_99 x_100 x_101) ∧ Go.Sx.CallsV Go.Proofs.Tryd.prog (8 : Nat) #[Go.Value.agg #[Go.Value.int Go.IntKind.i64 x, Go.Value.int
 Go.IntKind.i64 x_82, Go.Value.int Go.IntKind.i64 x_83, Go.Value.slice x_84 x_85 x_86, Go.Value.slice x_87 x_88 x_89, Go.Value.slice x_90 x_91 x_92, Go.Value.slice x_93 x_94 x_95, Go.Value.slice x_96
 x_97 x_98, Go.Value.slice x_99 x_100 x_101]] w' fun (v : Go.Value) (w' : Go.World) => ∃ (x : Int), v = Go.Value.int Go.IntKind.i64 x ∧ K (Go.Value.bool (Decidable.decide (x = (0 : Int)))) w' else K
 (Go.Value.bool Bool.false) w' else K (Go.Value.bool Bool.false) w' else K (Go.Value.bool Bool.false) w'
theorem cardindexlaw15_awake.eq  (w : World) (K : Value → World → Prop) : cardindexlaw15_awake.W  w K = fnW Tryd.prog Tryd.f9 (.named .auto) [] w K := by kernel_rfl
theorem cardindexlaw15_awake.calls (ok : Okay Tryd.prog)  {w : World} {K : Value → World → Prop} (h : cardindexlaw15_awake.W  w K) : CallsV Tryd.prog 9 #[] w K :=
  fnW_calls ok Tryd.func9 (an := (.named .auto)) (args := []) (by rw [← cardindexlaw15_awake.eq]; exact h)
noncomputable def cardindexlaw15_CodeForward.W : Int → Int → Int → Option Addr → Nat → Nat → Option Addr → Nat → Nat → Option Addr → Nat → Nat → Option Addr → Nat → Nat → Option Addr → Nat → Nat →
 Option Addr → Nat → Nat → World → (Value → World → Prop) → Prop := fun (p0 p1 p2 : Int) (p3_A : Option Go.Addr) (p3_n p3_c : Nat) (p4_A : Option Go.Addr) (p4_n p4_c : Nat) (p5_A : Option Go.Addr) (p5_n
 p5_c : Nat) (p6_A : Option Go.Addr) (p6_n p6_c : Nat) (p7_A : Option Go.Addr) (p7_n p7_c : Nat) (p8_A : Option Go.Addr) (p8_n p8_c : Nat) (w : Go.World) (K : Go.Value → Go.World → Prop) => ∀ (g : Nat)
 (w' : Go.World), Go.Sx.Fresh w g w' [Go.Value.int Go.IntKind.i64 p0, Go.Value.int Go.IntKind.i64 p1, Go.Value.int Go.IntKind.i64 p2, Go.Value.slice p3_A p3_n p3_c, Go.Value.slice p4_A p4_n p4_c,
 Go.Value.slice p5_A p5_n p5_c, Go.Value.slice p6_A p6_n p6_c, Go.Value.slice p7_A p7_n p7_c, Go.Value.slice p8_A p8_n p8_c] (29 : Nat) → ∃ (x : Int), Go.World.cell? w' (Go.Addr.add (Go.Addr.mk g (0 :
 Nat) Option.none) (0 : Nat)) = Option.some (Go.Value.int Go.IntKind.i64 x) ∧ ∃ (x_1 : Int), Go.World.cell? w' (Go.Addr.add (Go.Addr.mk g (0 : Nat) Option.none) (1 : Nat)) = Option.some (Go.Value.int
 Go.IntKind.i64 x_1) ∧ ∃ (x_2 : Int), Go.World.cell? w' (Go.Addr.add (Go.Addr.mk g (0 : Nat) Option.none) (2 : Nat)) = Option.some (Go.Value.int Go.IntKind.i64 x_2) ∧ ∃ (x_3 : Option Go.Addr), ∃ (x_4 :
 Nat), ∃ (x_5 : Nat), Go.World.cell? w' (Go.Addr.add (Go.Addr.mk g (0 : Nat) Option.none) (3 : Nat)) = Option.some (Go.Value.slice x_3 x_4 x_5) ∧ ∃ (x_6 : Option Go.Addr), ∃ (x_7 : Nat), ∃ (x_8 : Nat),
 Go.World.cell? w' (Go.Addr.add (Go.Addr.mk g (0 : Nat) Option.none) (4 : Nat)) = Option.some (Go.Value.slice x_6 x_7 x_8) ∧ ∃ (x_9 : Option Go.Addr), ∃ (x_10 : Nat), ∃ (x_11 : Nat), Go.World.cell? w'
 (Go.Addr.add (Go.Addr.mk g (0 : Nat) Option.none) (5 : Nat)) = Option.some (Go.Value.slice x_9 x_10 x_11) ∧ ∃ (x_12 : Option Go.Addr), ∃ (x_13 : Nat), ∃ (x_14 : Nat), Go.World.cell? w' (Go.Addr.add
 (Go.Addr.mk g (0 : Nat) Option.none) (6 : Nat)) = Option.some (Go.Value.slice x_12 x_13 x_14) ∧ ∃ (x_15 : Option Go.Addr), ∃ (x_16 : Nat), ∃ (x_17 : Nat), Go.World.cell? w' (Go.Addr.add (Go.Addr.mk g
 (0 : Nat) Option.none) (7 : Nat)) = Option.some (Go.Value.slice x_15 x_16 x_17) ∧ ∃ (x_18 : Option Go.Addr), ∃ (x_19 : Nat), ∃ (x_20 : Nat), Go.World.cell? w' (Go.Addr.add (Go.Addr.mk g (0 : Nat)
 Option.none) (8 : Nat)) = Option.some (Go.Value.slice x_18 x_19 x_20) ∧ Go.Sx.CallsV Go.Proofs.Tryd.prog (7 : Nat) #[Go.Value.agg #[Go.Value.int Go.IntKind.i64 x, Go.Value.int Go.IntKind.i64 x_1,
 Go.Value.int Go.IntKind.i64 x_2, Go.Value.slice x_3 x_4 x_5, Go.Value.slice x_6 x_7 x_8, Go.Value.slice x_9 x_10 x_11, Go.Value.slice x_12 x_13 x_14, Go.Value.slice x_15 x_16 x_17, Go.Value.slice x_18
 x_19 x_20]] w' fun (v : Go.Value) (w' : Go.World) => ∃ (x : Bool), v = Go.Value.bool x ∧ bif x then Go.Sx.CallsV Go.Proofs.Tryd.prog (9 : Nat) #[] w' fun (v : Go.Value) (w' : Go.World) => ∃ (x : Bool),
 v = Go.Value.bool x ∧ K (Go.Value.bool x) w' else ∃ (x : Int), Go.World.cell? w' (Go.Addr.add (Go.Addr.mk g (0 : Nat) Option.none) (0 : Nat)) = Option.some (Go.Value.int Go.IntKind.i64 x) ∧ ∃ (x_21 :
 Int), Go.World.cell? w' (Go.Addr.add (Go.Addr.mk g (0 : Nat) Option.none) (1 : Nat)) = Option.some (Go.Value.int Go.IntKind.i64 x_21) ∧ ∃ (x_22 : Int), Go.World.cell? w' (Go.Addr.add (Go.Addr.mk g (0 :
 Nat) Option.none) (2 : Nat)) = Option.some (Go.Value.int Go.IntKind.i64 x_22) ∧ ∃ (x_23 : Option Go.Addr), ∃ (x_24 : Nat), ∃ (x_25 : Nat), Go.World.cell? w' (Go.Addr.add (Go.Addr.mk g (0 : Nat)
 Option.none) (3 : Nat)) = Option.some (Go.Value.slice x_23 x_24 x_25) ∧ ∃ (x_26 : Option Go.Addr), ∃ (x_27 : Nat), ∃ (x_28 : Nat), Go.World.cell? w' (Go.Addr.add (Go.Addr.mk g (0 : Nat) Option.none) (4
 : Nat)) = Option.some (Go.Value.slice x_26 x_27 x_28) ∧ ∃ (x_29 : Option Go.Addr), ∃ (x_30 : Nat), ∃ (x_31 : Nat), Go.World.cell? w' (Go.Addr.add (Go.Addr.mk g (0 : Nat) Option.none) (5 : Nat)) =
 Option.some (Go.Value.slice x_29 x_30 x_31) ∧ ∃ (x_32 : Option Go.Addr), ∃ (x_33 : Nat), ∃ (x_34 : Nat), Go.World.cell? w' (Go.Addr.add (Go.Addr.mk g (0 : Nat) Option.none) (6 : Nat)) = Option.some
 (Go.Value.slice x_32 x_33 x_34) ∧ ∃ (x_35 : Option Go.Addr), ∃ (x_36 : Nat), ∃ (x_37 : Nat), Go.World.cell? w' (Go.Addr.add (Go.Addr.mk g (0 : Nat) Option.none) (7 : Nat)) = Option.some (Go.Value.slice
 x_35 x_36 x_37) ∧ ∃ (x_38 : Option Go.Addr), ∃ (x_39 : Nat), ∃ (x_40 : Nat), Go.World.cell? w' (Go.Addr.add (Go.Addr.mk g (0 : Nat) Option.none) (8 : Nat)) = Option.some (Go.Value.slice x_38 x_39 x_40)
 ∧ Go.Sx.CallsV Go.Proofs.Tryd.prog (8 : Nat) #[Go.Value.agg #[Go.Value.int Go.IntKind.i64 x, Go.Value.int Go.IntKind.i64 x_21, Go.Value.int Go.IntKind.i64 x_22, Go.Value.slice x_23 x_24 x_25,
 Go.Value.slice x_26 x_27 x_28, Go.Value.slice x_29 x_30 x_31, Go.Value.slice x_32 x_33 x_34, Go.Value.slice x_35 x_36 x_37, Go.Value.slice x_38 x_39 x_40]] w' fun (v : Go.Value) (w' : Go.World) => ∃ (x
 : Int), v = Go.Value.int Go.IntKind.i64 x ∧ bif !Decidable.decide (x = (0 : Int)) then Go.Sx.CallsV Go.Proofs.Tryd.prog (9 : Nat) #[] w' fun (v : Go.Value) (w' : Go.World) => ∃ (x : Bool), v =
 Go.Value.bool x ∧ K (Go.Value.bool x) w' else ∃ (x : Option Go.Addr), ∃ (x_41 : Nat), ∃ (x_42 : Nat), Go.World.cell? w' (Go.Addr.add (Go.Addr.mk g (0 : Nat) Option.none) (8 : Nat)) = Option.some
 (Go.Value.slice x x_41 x_42) ∧ ∃ (I : Int → Go.World → Prop), ∃ (μ : Int → Go.World → Nat), I (0 : Int) w' ∧ ∀ (x_43 : Int) (w : Go.World), I x_43 w → bif Decidable.decide (x_43 < (↑x_41 : Int)) then ∃
 (J : Go.World → Prop), (∀ (w_1 : Go.World), J w_1 → I (Go.IntKind.wrap Go.IntKind.i64 (x_43 + (1 : Int))) w_1 ∧ μ (Go.IntKind.wrap Go.IntKind.i64 (x_43 + (1 : Int))) w_1 < μ x_43 w) ∧ ∃ (ad : Go.Addr),
 x = Option.some ad ∧ ((0 : Int) ≤ x_43 ∧ x_43 < (↑x_41 : Int)) ∧ ∃ (x : Int), Go.World.cell? w (Go.Addr.add (Go.Addr.add ad (Int.toNat x_43 * (5 : Nat))) (0 : Nat)) = Option.some (Go.Value.int
 Go.IntKind.u8 x) ∧ ∃ (x_44 : Int), Go.World.cell? w (Go.Addr.add (Go.Addr.add ad (Int.toNat x_43 * (5 : Nat))) (1 : Nat)) = Option.some (Go.Value.int Go.IntKind.i64 x_44) ∧ ∃ (x_45 : Int),
 Go.World.cell? w (Go.Addr.add (Go.Addr.add ad (Int.toNat x_43 * (5 : Nat))) (2 : Nat)) = Option.some (Go.Value.int Go.IntKind.i64 x_45) ∧ ∃ (x_46 : Int), Go.World.cell? w (Go.Addr.add (Go.Addr.add ad
 (Int.toNat x_43 * (5 : Nat))) (3 : Nat)) = Option.some (Go.Value.int Go.IntKind.i64 x_46) ∧ ∃ (x_47 : Int), Go.World.cell? w (Go.Addr.add (Go.Addr.add ad (Int.toNat x_43 * (5 : Nat))) (4 : Nat)) =
 Option.some (Go.Value.int Go.IntKind.i64 x_47) ∧ ∀ (g_1 : Nat) (w' : Go.World), Go.Sx.Fresh w g_1 w' [Go.Value.int Go.IntKind.u8 (0 : Int), Go.Value.int Go.IntKind.i64 (0 : Int), Go.Value.int
 Go.IntKind.i64 (0 : Int), Go.Value.int Go.IntKind.i64 (0 : Int), Go.Value.int Go.IntKind.i64 (0 : Int)] (38 : Nat) → Go.Sx.stOK (Go.Addr.mk g_1 (0 : Nat) Option.none) (0 : Nat) [Go.Value.int
 Go.IntKind.u8 x, Go.Value.int Go.IntKind.i64 x_44, Go.Value.int Go.IntKind.i64 x_45, Go.Value.int Go.IntKind.i64 x_46, Go.Value.int Go.IntKind.i64 x_47] w' ∧ ∀ (w'_1 : Go.World), w'_1 = Go.Sx.setAll
 (Go.Addr.mk g_1 (0 : Nat) Option.none) (0 : Nat) [Go.Value.int Go.IntKind.u8 x, Go.Value.int Go.IntKind.i64 x_44, Go.Value.int Go.IntKind.i64 x_45, Go.Value.int Go.IntKind.i64 x_46, Go.Value.int
 Go.IntKind.i64 x_47] w' → ∃ (J_1 : Int → Go.World → Prop), (∀ (x : Int) (w : Go.World), J_1 x w → bif Decidable.decide (x ≤ x_43) then K (Go.Value.bool Bool.false) w else ∃ (x_48 : Option Go.Addr), ∃
 (x_49 : Nat), ∃ (x_50 : Nat), Go.World.cell? w (Go.Addr.add (Go.Addr.mk g (0 : Nat) Option.none) (8 : Nat)) = Option.some (Go.Value.slice x_48 x_49 x_50) ∧ bif Decidable.decide ((↑x_49 : Int) ≤ x) then
 K (Go.Value.bool Bool.false) w else J w) ∧ ∃ (x : Int), Go.World.cell? w'_1 (Go.Addr.add (Go.Addr.mk g_1 (0 : Nat) Option.none) (0 : Nat)) = Option.some (Go.Value.int Go.IntKind.u8 x) ∧ ∃ (J_2 : Bool →
 Go.World → Prop), (∀ (x_48 : Bool) (w : Go.World), J_2 x_48 w → bif x_48 then ∃ (x : Int), Go.World.cell? w (Go.Addr.add (Go.Addr.mk g_1 (0 : Nat) Option.none) (1 : Nat)) = Option.some (Go.Value.int
 Go.IntKind.i64 x) ∧ J_1 x w else ∃ (J_3 : Bool → Go.World → Prop), (∀ (x_49 : Bool) (w : Go.World), J_3 x_49 w → bif x_49 then ∃ (x : Int), Go.World.cell? w (Go.Addr.add (Go.Addr.mk g_1 (0 : Nat)
 Option.none) (2 : Nat)) = Option.some (Go.Value.int Go.IntKind.i64 x) ∧ J_1 x w else bif Decidable.decide (x = (15 : Int)) then bif Decidable.decide (x = (15 : Int)) then ∃ (x : Int), Go.World.cell? w
 (Go.Addr.add (Go.Addr.mk g_1 (0 : Nat) Option.none) (2 : Nat)) = Option.some (Go.Value.int Go.IntKind.i64 x) ∧ bif Decidable.decide (x < (1 : Int)) then K (Go.Value.bool Bool.false) w else ∃ (x : Int),
 Go.World.cell? w (Go.Addr.add (Go.Addr.mk g_1 (0 : Nat) Option.none) (2 : Nat)) = Option.some (Go.Value.int Go.IntKind.i64 x) ∧ bif Decidable.decide (x_43 < x) then K (Go.Value.bool Bool.false) w else
 J_1 (Go.IntKind.wrap Go.IntKind.i64 (x_43 + (1 : Int))) w else bif Decidable.decide (x = (35 : Int)) then J w else J_1 (Go.IntKind.wrap Go.IntKind.i64 (x_43 + (1 : Int))) w else bif Decidable.decide (x
 = (22 : Int)) then ∃ (x : Int), Go.World.cell? w (Go.Addr.add (Go.Addr.mk g_1 (0 : Nat) Option.none) (2 : Nat)) = Option.some (Go.Value.int Go.IntKind.i64 x) ∧ bif Decidable.decide (x < (1 : Int)) then
 K (Go.Value.bool Bool.false) w else ∃ (x : Int), Go.World.cell? w (Go.Addr.add (Go.Addr.mk g_1 (0 : Nat) Option.none) (2 : Nat)) = Option.some (Go.Value.int Go.IntKind.i64 x) ∧ bif Decidable.decide
 (x_43 < x) then K (Go.Value.bool Bool.false) w else J_1 (Go.IntKind.wrap Go.IntKind.i64 (x_43 + (1 : Int))) w else bif Decidable.decide (x = (35 : Int)) then J w else J_1 (Go.IntKind.wrap
 Go.IntKind.i64 (x_43 + (1 : Int))) w) ∧ bif Decidable.decide (x = (13 : Int)) then J_3 (Decidable.decide (x = (13 : Int))) w else bif Decidable.decide (x = (14 : Int)) then J_3 (Decidable.decide (x =
 (14 : Int))) w else bif Decidable.decide (x = (16 : Int)) then J_3 (Decidable.decide (x = (16 : Int))) w else bif Decidable.decide (x = (17 : Int)) then J_3 (Decidable.decide (x = (17 : Int))) w else
 J_3 (Decidable.decide (x = (21 : Int))) w) ∧ bif Decidable.decide (x = (10 : Int)) then J_2 (Decidable.decide (x = (10 : Int))) w'_1 else bif Decidable.decide (x = (11 : Int)) then J_2
 (Decidable.decide (x = (11 : Int))) w'_1 else J_2 (Decidable.decide (x = (12 : Int))) w'_1 else ∃ (x : Option Go.Addr), ∃ (x_44 : Nat), ∃ (x_45 : Nat), Go.World.cell? w (Go.Addr.add (Go.Addr.mk g (0 :
 Nat) Option.none) (8 : Nat)) = Option.some (Go.Value.slice x x_44 x_45) ∧ ∃ (x_46 : Option Go.Addr), ∃ (x_47 : Nat), ∃ (x_48 : Nat), Go.World.cell? w (Go.Addr.add (Go.Addr.mk g (0 : Nat) Option.none)
 (8 : Nat)) = Option.some (Go.Value.slice x_46 x_47 x_48) ∧ ∃ (ad : Go.Addr), x = Option.some ad ∧ ((0 : Int) ≤ Go.IntKind.wrap Go.IntKind.i64 ((↑x_47 : Int) - (1 : Int)) ∧ Go.IntKind.wrap
 Go.IntKind.i64 ((↑x_47 : Int) - (1 : Int)) < (↑x_44 : Int)) ∧ ∃ (x : Int), Go.World.cell? w (Go.Addr.add (Go.Addr.add ad (Int.toNat (Go.IntKind.wrap Go.IntKind.i64 ((↑x_47 : Int) - (1 : Int))) * (5 :
 Nat))) (0 : Nat)) = Option.some (Go.Value.int Go.IntKind.u8 x) ∧ bif Decidable.decide (x = (35 : Int)) then Go.Sx.CallsV Go.Proofs.Tryd.prog (9 : Nat) #[] w fun (v : Go.Value) (w' : Go.World) => ∃ (x :
 Bool), v = Go.Value.bool x ∧ K (Go.Value.bool x) w' else K (Go.Value.bool Bool.false) w
theorem cardindexlaw15_CodeForward.eq (p0 : Int) (p1 : Int) (p2 : Int) (p3_A : Option Addr) (p3_n : Nat) (p3_c : Nat) (p4_A : Option Addr) (p4_n : Nat) (p4_c : Nat) (p5_A : Option Addr) (p5_n : Nat) (p5_c : Nat) (p6_A : Option Addr) (p6_n : Nat) (p6_c : Nat) (p7_A : Option Addr) (p7_n : Nat) (p7_c : Nat) (p8_A : Option Addr) (p8_n : Nat) (p8_c : Nat) (w : World) (K : Value → World → Prop) : cardindexlaw15_CodeForward.W p0 p1 p2 p3_A p3_n p3_c p4_A p4_n p4_c p5_A p5_n p5_c p6_A p6_n p6_c p7_A p7_n p7_c p8_A p8_n p8_c w K = fnW Tryd.prog Tryd.f4 (.named (.seq .auto (.seq .auto (.seq (.seq .auto (.block (.loop [(17, .one (.int .i64))] (.seq .auto (.seq .auto (.join [] (.block (.seq .auto (.seq .auto (.join [(5, .one (.int .i64))] (.seq .auto (.block (.join [(26, .one .bool)] .auto (.cond .auto (.join [(32, .one .bool)] .auto .auto))))) .auto)))) .auto)))))) .auto)))) [.agg #[.int .i64 p0, .int .i64 p1, .int .i64 p2, .slice p3_A p3_n p3_c, .slice p4_A p4_n p4_c, .slice p5_A p5_n p5_c, .slice p6_A p6_n p6_c, .slice p7_A p7_n p7_c, .slice p8_A p8_n p8_c]] w K := by kernel_rfl
theorem cardindexlaw15_CodeForward.calls (ok : Okay Tryd.prog) {p0 : Int} {p1 : Int} {p2 : Int} {p3_A : Option Addr} {p3_n : Nat} {p3_c : Nat} {p4_A : Option Addr} {p4_n : Nat} {p4_c : Nat} {p5_A : Option Addr} {p5_n : Nat} {p5_c : Nat} {p6_A : Option Addr} {p6_n : Nat} {p6_c : Nat} {p7_A : Option Addr} {p7_n : Nat} {p7_c : Nat} {p8_A : Option Addr} {p8_n : Nat} {p8_c : Nat} {w : World} {K : Value → World → Prop} (h : cardindexlaw15_CodeForward.W p0 p1 p2 p3_A p3_n p3_c p4_A p4_n p4_c p5_A p5_n p5_c p6_A p6_n p6_c p7_A p7_n p7_c p8_A p8_n p8_c w K) : CallsV Tryd.prog 4 #[.agg #[.int .i64 p0, .int .i64 p1, .int .i64 p2, .slice p3_A p3_n p3_c, .slice p4_A p4_n p4_c, .slice p5_A p5_n p5_c, .slice p6_A p6_n p6_c, .slice p7_A p7_n p7_c, .slice p8_A p8_n p8_c]] w K :=
  fnW_calls ok Tryd.func4 (an := (.named (.seq .auto (.seq .auto (.seq (.seq .auto (.block (.loop [(17, .one (.int .i64))] (.seq .auto (.seq .auto (.join [] (.block (.seq .auto (.seq .auto (.join [(5, .one (.int .i64))] (.seq .auto (.block (.join [(26, .one .bool)] .auto (.cond .auto (.join [(32, .one .bool)] .auto .auto))))) .auto)))) .auto)))))) .auto))))) (args := [.agg #[.int .i64 p0, .int .i64 p1, .int .i64 p2, .slice p3_A p3_n p3_c, .slice p4_A p4_n p4_c, .slice p5_A p5_n p5_c, .slice p6_A p6_n p6_c, .slice p7_A p7_n p7_c, .slice p8_A p8_n p8_c]]) (by rw [← cardindexlaw15_CodeForward.eq]; exact h)
noncomputable def cardindexlaw15_CodeEnds.W : Int → Int → Int → Option Addr → Nat → Nat → Option Addr → Nat → Nat → Option Addr → Nat → Nat → Option Addr → Nat → Nat → Option Addr → Nat → Nat → Option
 Addr → Nat → Nat → Int → Int → World → (Value → World → Prop) → Prop := fun (p0 p1 p2 : Int) (p3_A : Option Go.Addr) (p3_n p3_c : Nat) (p4_A : Option Go.Addr) (p4_n p4_c : Nat) (p5_A : Option Go.Addr)
 (p5_n p5_c : Nat) (p6_A : Option Go.Addr) (p6_n p6_c : Nat) (p7_A : Option Go.Addr) (p7_n p7_c : Nat) (p8_A : Option Go.Addr) (p8_n p8_c : Nat) (atx field : Int) (w : Go.World) (K : Go.Value → Go.World
 → Prop) => ∀ (g : Nat) (w' : Go.World), Go.Sx.Fresh w g w' [Go.Value.int Go.IntKind.i64 p0, Go.Value.int Go.IntKind.i64 p1, Go.Value.int Go.IntKind.i64 p2, Go.Value.slice p3_A p3_n p3_c, Go.Value.slice
 p4_A p4_n p4_c, Go.Value.slice p5_A p5_n p5_c, Go.Value.slice p6_A p6_n p6_c, Go.Value.slice p7_A p7_n p7_c, Go.Value.slice p8_A p8_n p8_c] (29 : Nat) → ∃ (x : Int), Go.World.cell? w' (Go.Addr.add
 (Go.Addr.mk g (0 : Nat) Option.none) (0 : Nat)) = Option.some (Go.Value.int Go.IntKind.i64 x) ∧ ∃ (x_1 : Int), Go.World.cell? w' (Go.Addr.add (Go.Addr.mk g (0 : Nat) Option.none) (1 : Nat)) =
 Option.some (Go.Value.int Go.IntKind.i64 x_1) ∧ ∃ (x_2 : Int), Go.World.cell? w' (Go.Addr.add (Go.Addr.mk g (0 : Nat) Option.none) (2 : Nat)) = Option.some (Go.Value.int Go.IntKind.i64 x_2) ∧ ∃ (x_3 :
 Option Go.Addr), ∃ (x_4 : Nat), ∃ (x_5 : Nat), Go.World.cell? w' (Go.Addr.add (Go.Addr.mk g (0 : Nat) Option.none) (3 : Nat)) = Option.some (Go.Value.slice x_3 x_4 x_5) ∧ ∃ (x_6 : Option Go.Addr), ∃
 (x_7 : Nat), ∃ (x_8 : Nat), Go.World.cell? w' (Go.Addr.add (Go.Addr.mk g (0 : Nat) Option.none) (4 : Nat)) = Option.some (Go.Value.slice x_6 x_7 x_8) ∧ ∃ (x_9 : Option Go.Addr), ∃ (x_10 : Nat), ∃ (x_11
 : Nat), Go.World.cell? w' (Go.Addr.add (Go.Addr.mk g (0 : Nat) Option.none) (5 : Nat)) = Option.some (Go.Value.slice x_9 x_10 x_11) ∧ ∃ (x_12 : Option Go.Addr), ∃ (x_13 : Nat), ∃ (x_14 : Nat),
 Go.World.cell? w' (Go.Addr.add (Go.Addr.mk g (0 : Nat) Option.none) (6 : Nat)) = Option.some (Go.Value.slice x_12 x_13 x_14) ∧ ∃ (x_15 : Option Go.Addr), ∃ (x_16 : Nat), ∃ (x_17 : Nat), Go.World.cell?
 w' (Go.Addr.add (Go.Addr.mk g (0 : Nat) Option.none) (7 : Nat)) = Option.some (Go.Value.slice x_15 x_16 x_17) ∧ ∃ (x_18 : Option Go.Addr), ∃ (x_19 : Nat), ∃ (x_20 : Nat), Go.World.cell? w' (Go.Addr.add
 (Go.Addr.mk g (0 : Nat) Option.none) (8 : Nat)) = Option.some (Go.Value.slice x_18 x_19 x_20) ∧ Go.Sx.CallsV Go.Proofs.Tryd.prog (7 : Nat) #[Go.Value.agg #[Go.Value.int Go.IntKind.i64 x, Go.Value.int
 Go.IntKind.i64 x_1, Go.Value.int Go.IntKind.i64 x_2, Go.Value.slice x_3 x_4 x_5, Go.Value.slice x_6 x_7 x_8, Go.Value.slice x_9 x_10 x_11, Go.Value.slice x_12 x_13 x_14, Go.Value.slice x_15 x_16 x_17,
 Go.Value.slice x_18 x_19 x_20]] w' fun (v : Go.Value) (w' : Go.World) => ∃ (x : Bool), v = Go.Value.bool x ∧ bif x then Go.Sx.CallsV Go.Proofs.Tryd.prog (9 : Nat) #[] w' fun (v : Go.Value) (w' :
 Go.World) => ∃ (x : Bool), v = Go.Value.bool x ∧ K (Go.Value.bool x) w' else ∃ (x : Int), Go.World.cell? w' (Go.Addr.add (Go.Addr.mk g (0 : Nat) Option.none) (0 : Nat)) = Option.some (Go.Value.int
 Go.IntKind.i64 x) ∧ ∃ (x_21 : Int), Go.World.cell? w' (Go.Addr.add (Go.Addr.mk g (0 : Nat) Option.none) (1 : Nat)) = Option.some (Go.Value.int Go.IntKind.i64 x_21) ∧ ∃ (x_22 : Int), Go.World.cell? w'
 (Go.Addr.add (Go.Addr.mk g (0 : Nat) Option.none) (2 : Nat)) = Option.some (Go.Value.int Go.IntKind.i64 x_22) ∧ ∃ (x_23 : Option Go.Addr), ∃ (x_24 : Nat), ∃ (x_25 : Nat), Go.World.cell? w' (Go.Addr.add
 (Go.Addr.mk g (0 : Nat) Option.none) (3 : Nat)) = Option.some (Go.Value.slice x_23 x_24 x_25) ∧ ∃ (x_26 : Option Go.Addr), ∃ (x_27 : Nat), ∃ (x_28 : Nat), Go.World.cell? w' (Go.Addr.add (Go.Addr.mk g
 (0 : Nat) Option.none) (4 : Nat)) = Option.some (Go.Value.slice x_26 x_27 x_28) ∧ ∃ (x_29 : Option Go.Addr), ∃ (x_30 : Nat), ∃ (x_31 : Nat), Go.World.cell? w' (Go.Addr.add (Go.Addr.mk g (0 : Nat)
 Option.none) (5 : Nat)) = Option.some (Go.Value.slice x_29 x_30 x_31) ∧ ∃ (x_32 : Option Go.Addr), ∃ (x_33 : Nat), ∃ (x_34 : Nat), Go.World.cell? w' (Go.Addr.add (Go.Addr.mk g (0 : Nat) Option.none) (6
 : Nat)) = Option.some (Go.Value.slice x_32 x_33 x_34) ∧ ∃ (x_35 : Option Go.Addr), ∃ (x_36 : Nat), ∃ (x_37 : Nat), Go.World.cell? w' (Go.Addr.add (Go.Addr.mk g (0 : Nat) Option.none) (7 : Nat)) =
 Option.some (Go.Value.slice x_35 x_36 x_37) ∧ ∃ (x_38 : Option Go.Addr), ∃ (x_39 : Nat), ∃ (x_40 : Nat), Go.World.cell? w' (Go.Addr.add (Go.Addr.mk g (0 : Nat) Option.none) (8 : Nat)) = Option.some
 (Go.Value.slice x_38 x_39 x_40) ∧ Go.Sx.CallsV Go.Proofs.Tryd.prog (8 : Nat) #[Go.Value.agg #[Go.Value.int Go.IntKind.i64 x, Go.Value.int Go.IntKind.i64 x_21, Go.Value.int Go.IntKind.i64 x_22,
 Go.Value.slice x_23 x_24 x_25, Go.Value.slice x_26 x_27 x_28, Go.Value.slice x_29 x_30 x_31, Go.Value.slice x_32 x_33 x_34, Go.Value.slice x_35 x_36 x_37, Go.Value.slice x_38 x_39 x_40]] w' fun (v :
 Go.Value) (w' : Go.World) => ∃ (x : Int), v = Go.Value.int Go.IntKind.i64 x ∧ bif !Decidable.decide (x = (0 : Int)) then Go.Sx.CallsV Go.Proofs.Tryd.prog (9 : Nat) #[] w' fun (v : Go.Value) (w' :
 Go.World) => ∃ (x : Bool), v = Go.Value.bool x ∧ K (Go.Value.bool x) w' else ∃ (x : Option Go.Addr), ∃ (x_41 : Nat), ∃ (x_42 : Nat), Go.World.cell? w' (Go.Addr.add (Go.Addr.mk g (0 : Nat) Option.none)
 (8 : Nat)) = Option.some (Go.Value.slice x x_41 x_42) ∧ Go.Sx.CallsV Go.Proofs.Tryd.prog (10 : Nat) #[Go.Value.int Go.IntKind.i64 atx, Go.Value.int Go.IntKind.i64 (↑x_41 : Int)] w' fun (v : Go.Value)
 (w' : Go.World) => ∃ (x : Int), v = Go.Value.int Go.IntKind.i64 x ∧ ∃ (x_43 : Int), Go.World.cell? w' (Go.Addr.add (Go.Addr.mk g (0 : Nat) Option.none) (0 : Nat)) = Option.some (Go.Value.int
 Go.IntKind.i64 x_43) ∧ ∃ (x_44 : Int), Go.World.cell? w' (Go.Addr.add (Go.Addr.mk g (0 : Nat) Option.none) (1 : Nat)) = Option.some (Go.Value.int Go.IntKind.i64 x_44) ∧ ∃ (x_45 : Int), Go.World.cell?
 w' (Go.Addr.add (Go.Addr.mk g (0 : Nat) Option.none) (2 : Nat)) = Option.some (Go.Value.int Go.IntKind.i64 x_45) ∧ ∃ (x_46 : Option Go.Addr), ∃ (x_47 : Nat), ∃ (x_48 : Nat), Go.World.cell? w'
 (Go.Addr.add (Go.Addr.mk g (0 : Nat) Option.none) (3 : Nat)) = Option.some (Go.Value.slice x_46 x_47 x_48) ∧ ∃ (x_49 : Option Go.Addr), ∃ (x_50 : Nat), ∃ (x_51 : Nat), Go.World.cell? w' (Go.Addr.add
 (Go.Addr.mk g (0 : Nat) Option.none) (4 : Nat)) = Option.some (Go.Value.slice x_49 x_50 x_51) ∧ ∃ (x_52 : Option Go.Addr), ∃ (x_53 : Nat), ∃ (x_54 : Nat), Go.World.cell? w' (Go.Addr.add (Go.Addr.mk g
 (0 : Nat) Option.none) (5 : Nat)) = Option.some (Go.Value.slice x_52 x_53 x_54) ∧ ∃ (x_55 : Option Go.Addr), ∃ (x_56 : Nat), ∃ (x_57 : Nat), Go.World.cell? w' (Go.Addr.add (Go.Addr.mk g (0 : Nat)
 Option.none) (6 : Nat)) = Option.some (Go.Value.slice x_55 x_56 x_57) ∧ ∃ (x_58 : Option Go.Addr), ∃ (x_59 : Nat), ∃ (x_60 : Nat), Go.World.cell? w' (Go.Addr.add (Go.Addr.mk g (0 : Nat) Option.none) (7
 : Nat)) = Option.some (Go.Value.slice x_58 x_59 x_60) ∧ ∃ (x_61 : Option Go.Addr), ∃ (x_62 : Nat), ∃ (x_63 : Nat), Go.World.cell? w' (Go.Addr.add (Go.Addr.mk g (0 : Nat) Option.none) (8 : Nat)) =
 Option.some (Go.Value.slice x_61 x_62 x_63) ∧ ∀ (g_1 : Nat) (w'_1 : Go.World), Go.Sx.Fresh w' g_1 w'_1 [Go.Value.int Go.IntKind.i64 (0 : Int), Go.Value.int Go.IntKind.i64 (0 : Int), Go.Value.int
 Go.IntKind.i64 (0 : Int), Go.Value.slice Option.none (0 : Nat) (0 : Nat), Go.Value.slice Option.none (0 : Nat) (0 : Nat), Go.Value.slice Option.none (0 : Nat) (0 : Nat), Go.Value.slice Option.none (0 :
 Nat) (0 : Nat), Go.Value.slice Option.none (0 : Nat) (0 : Nat), Go.Value.slice Option.none (0 : Nat) (0 : Nat)] (29 : Nat) → Go.Sx.stOK (Go.Addr.mk g_1 (0 : Nat) Option.none) (0 : Nat) [Go.Value.int
 Go.IntKind.i64 x_43, Go.Value.int Go.IntKind.i64 x_44, Go.Value.int Go.IntKind.i64 x_45, Go.Value.slice x_46 x_47 x_48, Go.Value.slice x_49 x_50 x_51, Go.Value.slice x_52 x_53 x_54, Go.Value.slice x_55
 x_56 x_57, Go.Value.slice x_58 x_59 x_60, Go.Value.slice x_61 x_62 x_63] w'_1 ∧ ∀ (w' : Go.World), w' = Go.Sx.setAll (Go.Addr.mk g_1 (0 : Nat) Option.none) (0 : Nat) [Go.Value.int Go.IntKind.i64 x_43,
 Go.Value.int Go.IntKind.i64 x_44, Go.Value.int Go.IntKind.i64 x_45, Go.Value.slice x_46 x_47 x_48, Go.Value.slice x_49 x_50 x_51, Go.Value.slice x_52 x_53 x_54, Go.Value.slice x_55 x_56 x_57,
 Go.Value.slice x_58 x_59 x_60, Go.Value.slice x_61 x_62 x_63] w'_1 → ∀ (g_2 : Nat) (w'_2 : Go.World), Go.Sx.Fresh w' g_2 w'_2 [] (38 : Nat) → ∃ (x_64 : Option Go.Addr), ∃ (x_65 : Nat), ∃ (x_66 : Nat),
 Go.World.cell? w'_2 (Go.Addr.add (Go.Addr.mk g (0 : Nat) Option.none) (8 : Nat)) = Option.some (Go.Value.slice x_64 x_65 x_66) ∧ ∃ (x_67 : Option Go.Addr), ∃ (x_68 : Nat), ∃ (x_69 : Nat), ∃ (w' :
 Go.World), Go.Sx.RunsTo Go.Proofs.Tryd.prog (Go.Builtin.append_ (Array.mk [(27 : Nat), (27 : Nat)]) (27 : Nat) #[Go.Value.slice (Option.some (Go.Addr.mk g_2 (0 : Nat) Option.none)) (0 : Nat) (0 : Nat),
 Go.Value.slice x_64 x_65 x_66]) w'_2 (Go.Value.slice x_67 x_68 x_69) w' ∧ Go.Sx.stOK (Go.Addr.add (Go.Addr.mk g_1 (0 : Nat) Option.none) (8 : Nat)) (0 : Nat) [Go.Value.slice x_67 x_68 x_69] w' ∧ ∀
 (w'_3 : Go.World), w'_3 = Go.Sx.setAll (Go.Addr.add (Go.Addr.mk g_1 (0 : Nat) Option.none) (8 : Nat)) (0 : Nat) [Go.Value.slice x_67 x_68 x_69] w' → ∃ (x_70 : Option Go.Addr), ∃ (x_71 : Nat), ∃ (x_72 :
 Nat), Go.World.cell? w'_3 (Go.Addr.add (Go.Addr.mk g_1 (0 : Nat) Option.none) (8 : Nat)) = Option.some (Go.Value.slice x_70 x_71 x_72) ∧ ∃ (ad : Go.Addr), x_70 = Option.some ad ∧ ((0 : Int) ≤ x ∧ x <
 (↑x_71 : Int)) ∧ ∃ (J : Int → Go.World → Prop), (∀ (x_73 : Int) (w : Go.World), J x_73 w → ∃ (J : Go.World → Prop), (∀ (w : Go.World), J w → ∃ (x : Int), Go.World.cell? w (Go.Addr.add (Go.Addr.mk g_1
 (0 : Nat) Option.none) (0 : Nat)) = Option.some (Go.Value.int Go.IntKind.i64 x) ∧ ∃ (x_74 : Int), Go.World.cell? w (Go.Addr.add (Go.Addr.mk g_1 (0 : Nat) Option.none) (1 : Nat)) = Option.some
 (Go.Value.int Go.IntKind.i64 x_74) ∧ ∃ (x_75 : Int), Go.World.cell? w (Go.Addr.add (Go.Addr.mk g_1 (0 : Nat) Option.none) (2 : Nat)) = Option.some (Go.Value.int Go.IntKind.i64 x_75) ∧ ∃ (x_76 : Option
 Go.Addr), ∃ (x_77 : Nat), ∃ (x_78 : Nat), Go.World.cell? w (Go.Addr.add (Go.Addr.mk g_1 (0 : Nat) Option.none) (3 : Nat)) = Option.some (Go.Value.slice x_76 x_77 x_78) ∧ ∃ (x_79 : Option Go.Addr), ∃
 (x_80 : Nat), ∃ (x_81 : Nat), Go.World.cell? w (Go.Addr.add (Go.Addr.mk g_1 (0 : Nat) Option.none) (4 : Nat)) = Option.some (Go.Value.slice x_79 x_80 x_81) ∧ ∃ (x_82 : Option Go.Addr), ∃ (x_83 : Nat),
 ∃ (x_84 : Nat), Go.World.cell? w (Go.Addr.add (Go.Addr.mk g_1 (0 : Nat) Option.none) (5 : Nat)) = Option.some (Go.Value.slice x_82 x_83 x_84) ∧ ∃ (x_85 : Option Go.Addr), ∃ (x_86 : Nat), ∃ (x_87 :
 Nat), Go.World.cell? w (Go.Addr.add (Go.Addr.mk g_1 (0 : Nat) Option.none) (6 : Nat)) = Option.some (Go.Value.slice x_85 x_86 x_87) ∧ ∃ (x_88 : Option Go.Addr), ∃ (x_89 : Nat), ∃ (x_90 : Nat),
 Go.World.cell? w (Go.Addr.add (Go.Addr.mk g_1 (0 : Nat) Option.none) (7 : Nat)) = Option.some (Go.Value.slice x_88 x_89 x_90) ∧ ∃ (x_91 : Option Go.Addr), ∃ (x_92 : Nat), ∃ (x_93 : Nat), Go.World.cell?
 w (Go.Addr.add (Go.Addr.mk g_1 (0 : Nat) Option.none) (8 : Nat)) = Option.some (Go.Value.slice x_91 x_92 x_93) ∧ Go.Sx.CallsV Go.Proofs.Tryd.prog (8 : Nat) #[Go.Value.agg #[Go.Value.int Go.IntKind.i64
 x, Go.Value.int Go.IntKind.i64 x_74, Go.Value.int Go.IntKind.i64 x_75, Go.Value.slice x_76 x_77 x_78, Go.Value.slice x_79 x_80 x_81, Go.Value.slice x_82 x_83 x_84, Go.Value.slice x_85 x_86 x_87,
 Go.Value.slice x_88 x_89 x_90, Go.Value.slice x_91 x_92 x_93]] w fun (v : Go.Value) (w' : Go.World) => ∃ (x : Int), v = Go.Value.int Go.IntKind.i64 x ∧ bif Decidable.decide (x = (140 : Int)) then
 Go.Sx.CallsV Go.Proofs.Tryd.prog (9 : Nat) #[] w' fun (v : Go.Value) (w' : Go.World) => ∃ (x : Bool), v = Go.Value.bool x ∧ K (Go.Value.bool x) w' else K (Go.Value.bool Bool.false) w') ∧ Go.Sx.CallsV
 Go.Proofs.Tryd.prog (10 : Nat) #[Go.Value.int Go.IntKind.i64 field, Go.Value.int Go.IntKind.i64 (4 : Int)] w fun (v : Go.Value) (w' : Go.World) => ∃ (x_74 : Int), v = Go.Value.int Go.IntKind.i64 x_74 ∧
 bif Decidable.decide (x_74 = (0 : Int)) then ∃ (a : Go.Addr), Option.some (Go.Addr.add ad (Int.toNat x * (5 : Nat))) = Option.some a ∧ Go.Sx.stOK (Go.Addr.add a (1 : Nat)) (0 : Nat) [Go.Value.int
 Go.IntKind.i64 x_73] w' ∧ ∀ (w'_4 : Go.World), w'_4 = Go.Sx.setAll (Go.Addr.add a (1 : Nat)) (0 : Nat) [Go.Value.int Go.IntKind.i64 x_73] w' → J w'_4 else bif Decidable.decide (x_74 = (1 : Int)) then ∃
 (a : Go.Addr), Option.some (Go.Addr.add ad (Int.toNat x * (5 : Nat))) = Option.some a ∧ Go.Sx.stOK (Go.Addr.add a (2 : Nat)) (0 : Nat) [Go.Value.int Go.IntKind.i64 x_73] w' ∧ ∀ (w'_4 : Go.World), w'_4
 = Go.Sx.setAll (Go.Addr.add a (2 : Nat)) (0 : Nat) [Go.Value.int Go.IntKind.i64 x_73] w' → J w'_4 else bif Decidable.decide (x_74 = (2 : Int)) then ∃ (a : Go.Addr), Option.some (Go.Addr.add ad
 (Int.toNat x * (5 : Nat))) = Option.some a ∧ Go.Sx.stOK (Go.Addr.add a (3 : Nat)) (0 : Nat) [Go.Value.int Go.IntKind.i64 x_73] w' ∧ ∀ (w'_4 : Go.World), w'_4 = Go.Sx.setAll (Go.Addr.add a (3 : Nat)) (0
 : Nat) [Go.Value.int Go.IntKind.i64 x_73] w' → J w'_4 else ∃ (a : Go.Addr), Option.some (Go.Addr.add ad (Int.toNat x * (5 : Nat))) = Option.some a ∧ Go.Sx.stOK (Go.Addr.add a (4 : Nat)) (0 : Nat)
 [Go.Value.int Go.IntKind.i64 x_73] w' ∧ ∀ (w'_4 : Go.World), w'_4 = Go.Sx.setAll (Go.Addr.add a (4 : Nat)) (0 : Nat) [Go.Value.int Go.IntKind.i64 x_73] w' → J w'_4) ∧ Go.Sx.CallsV Go.Proofs.Tryd.prog
 (10 : Nat) #[Go.Value.int Go.IntKind.i64 field, Go.Value.int Go.IntKind.i64 (8 : Int)] w'_3 fun (v : Go.Value) (w' : Go.World) => ∃ (x : Int), v = Go.Value.int Go.IntKind.i64 x ∧ bif Decidable.decide
 ((4 : Int) ≤ x) then J (-1 : Int) w' else J (1073741824 : Int) w'
theorem cardindexlaw15_CodeEnds.eq (p0 : Int) (p1 : Int) (p2 : Int) (p3_A : Option Addr) (p3_n : Nat) (p3_c : Nat) (p4_A : Option Addr) (p4_n : Nat) (p4_c : Nat) (p5_A : Option Addr) (p5_n : Nat) (p5_c : Nat) (p6_A : Option Addr) (p6_n : Nat) (p6_c : Nat) (p7_A : Option Addr) (p7_n : Nat) (p7_c : Nat) (p8_A : Option Addr) (p8_n : Nat) (p8_c : Nat) (atx : Int) (field : Int) (w : World) (K : Value → World → Prop) : cardindexlaw15_CodeEnds.W p0 p1 p2 p3_A p3_n p3_c p4_A p4_n p4_c p5_A p5_n p5_c p6_A p6_n p6_c p7_A p7_n p7_c p8_A p8_n p8_c atx field w K = fnW Tryd.prog Tryd.f3 (.named (.seq .auto (.seq .auto (.seq .auto (.seq .auto (.seq .auto (.seq .auto (.seq .auto (.join [(10, .one (.int .i64))] .auto (.join [] .auto .auto)))))))))) [.agg #[.int .i64 p0, .int .i64 p1, .int .i64 p2, .slice p3_A p3_n p3_c, .slice p4_A p4_n p4_c, .slice p5_A p5_n p5_c, .slice p6_A p6_n p6_c, .slice p7_A p7_n p7_c, .slice p8_A p8_n p8_c], .int .i64 atx, .int .i64 field] w K := by kernel_rfl
theorem cardindexlaw15_CodeEnds.calls (ok : Okay Tryd.prog) {p0 : Int} {p1 : Int} {p2 : Int} {p3_A : Option Addr} {p3_n : Nat} {p3_c : Nat} {p4_A : Option Addr} {p4_n : Nat} {p4_c : Nat} {p5_A : Option Addr} {p5_n : Nat} {p5_c : Nat} {p6_A : Option Addr} {p6_n : Nat} {p6_c : Nat} {p7_A : Option Addr} {p7_n : Nat} {p7_c : Nat} {p8_A : Option Addr} {p8_n : Nat} {p8_c : Nat} {atx : Int} {field : Int} {w : World} {K : Value → World → Prop} (h : cardindexlaw15_CodeEnds.W p0 p1 p2 p3_A p3_n p3_c p4_A p4_n p4_c p5_A p5_n p5_c p6_A p6_n p6_c p7_A p7_n p7_c p8_A p8_n p8_c atx field w K) : CallsV Tryd.prog 3 #[.agg #[.int .i64 p0, .int .i64 p1, .int .i64 p2, .slice p3_A p3_n p3_c, .slice p4_A p4_n p4_c, .slice p5_A p5_n p5_c, .slice p6_A p6_n p6_c, .slice p7_A p7_n p7_c, .slice p8_A p8_n p8_c], .int .i64 atx, .int .i64 field] w K :=
  fnW_calls ok Tryd.func3 (an := (.named (.seq .auto (.seq .auto (.seq .auto (.seq .auto (.seq .auto (.seq .auto (.seq .auto (.join [(10, .one (.int .i64))] .auto (.join [] .auto .auto))))))))))) (args := [.agg #[.int .i64 p0, .int .i64 p1, .int .i64 p2, .slice p3_A p3_n p3_c, .slice p4_A p4_n p4_c, .slice p5_A p5_n p5_c, .slice p6_A p6_n p6_c, .slice p7_A p7_n p7_c, .slice p8_A p8_n p8_c], .int .i64 atx, .int .i64 field]) (by rw [← cardindexlaw15_CodeEnds.eq]; exact h)
noncomputable def cardindexkit_Pick.W : Int → Int → World → (Value → World → Prop) → Prop := fun (x n : Int) (w : Go.World) (K : Go.Value → Go.World → Prop) => bif Decidable.decide (n < (1 : Int)) then
 K (Go.Value.int Go.IntKind.i64 (0 : Int)) w else n ≠ (0 : Int) ∧ bif Decidable.decide (Int.tmod x n < (0 : Int)) then K (Go.Value.int Go.IntKind.i64 (Go.IntKind.wrap Go.IntKind.i64 (Int.tmod x n + n)))
 w else K (Go.Value.int Go.IntKind.i64 (Int.tmod x n)) w
theorem cardindexkit_Pick.eq (x : Int) (n : Int) (w : World) (K : Value → World → Prop) : cardindexkit_Pick.W x n w K = fnW Tryd.prog Tryd.f10 (.named .auto) [.int .i64 x, .int .i64 n] w K := by kernel_rfl
theorem cardindexkit_Pick.calls (ok : Okay Tryd.prog) {x : Int} {n : Int} {w : World} {K : Value → World → Prop} (h : cardindexkit_Pick.W x n w K) : CallsV Tryd.prog 10 #[.int .i64 x, .int .i64 n] w K :=
  fnW_calls ok Tryd.func10 (an := (.named .auto)) (args := [.int .i64 x, .int .i64 n]) (by rw [← cardindexkit_Pick.eq]; exact h)
end Go.Proofs.YtaifphjenebgoaaDoor
/- The preconditions of Go functions, printed by a program of this workplace (nests.py); each is proved to be the engine's own. -/
set_option linter.unusedVariables false
set_option maxRecDepth 100000
namespace Go.Proofs.YtaifphjenebgoaaDoor
open Go Go.Sx
noncomputable def code_Check.W : Int → Int → Int → Option Addr → Nat → Nat → Option Addr → Nat → Nat → Option Addr → Nat → Nat → Option Addr → Nat → Nat → Option Addr → Nat → Nat → Option Addr → Nat →
 Nat → World → (Value → World → Prop) → Prop := fun (p0 p1 p2 : Int) (p3_A : Option Go.Addr) (p3_n p3_c : Nat) (p4_A : Option Go.Addr) (p4_n p4_c : Nat) (p5_A : Option Go.Addr) (p5_n p5_c : Nat) (p6_A :
 Option Go.Addr) (p6_n p6_c : Nat) (p7_A : Option Go.Addr) (p7_n p7_c : Nat) (p8_A : Option Go.Addr) (p8_n p8_c : Nat) (w : Go.World) (K : Go.Value → Go.World → Prop) => ∀ (g : Nat) (w' : Go.World),
 Go.Sx.Fresh w g w' [Go.Value.int Go.IntKind.i64 p0, Go.Value.int Go.IntKind.i64 p1, Go.Value.int Go.IntKind.i64 p2, Go.Value.slice p3_A p3_n p3_c, Go.Value.slice p4_A p4_n p4_c, Go.Value.slice p5_A
 p5_n p5_c, Go.Value.slice p6_A p6_n p6_c, Go.Value.slice p7_A p7_n p7_c, Go.Value.slice p8_A p8_n p8_c] (29 : Nat) → ∃ (x : Int), Go.World.cell? w' (Go.Addr.add (Go.Addr.mk g (0 : Nat) Option.none) (0
 : Nat)) = Option.some (Go.Value.int Go.IntKind.i64 x) ∧ ∃ (x_1 : Int), Go.World.cell? w' (Go.Addr.add (Go.Addr.mk g (0 : Nat) Option.none) (1 : Nat)) = Option.some (Go.Value.int Go.IntKind.i64 x_1) ∧ ∃
 (x_2 : Int), Go.World.cell? w' (Go.Addr.add (Go.Addr.mk g (0 : Nat) Option.none) (2 : Nat)) = Option.some (Go.Value.int Go.IntKind.i64 x_2) ∧ ∃ (x_3 : Option Go.Addr), ∃ (x_4 : Nat), ∃ (x_5 : Nat),
 Go.World.cell? w' (Go.Addr.add (Go.Addr.mk g (0 : Nat) Option.none) (3 : Nat)) = Option.some (Go.Value.slice x_3 x_4 x_5) ∧ ∃ (x_6 : Option Go.Addr), ∃ (x_7 : Nat), ∃ (x_8 : Nat), Go.World.cell? w'
 (Go.Addr.add (Go.Addr.mk g (0 : Nat) Option.none) (4 : Nat)) = Option.some (Go.Value.slice x_6 x_7 x_8) ∧ ∃ (x_9 : Option Go.Addr), ∃ (x_10 : Nat), ∃ (x_11 : Nat), Go.World.cell? w' (Go.Addr.add
 (Go.Addr.mk g (0 : Nat) Option.none) (5 : Nat)) = Option.some (Go.Value.slice x_9 x_10 x_11) ∧ ∃ (x_12 : Option Go.Addr), ∃ (x_13 : Nat), ∃ (x_14 : Nat), Go.World.cell? w' (Go.Addr.add (Go.Addr.mk g (0
 : Nat) Option.none) (6 : Nat)) = Option.some (Go.Value.slice x_12 x_13 x_14) ∧ ∃ (x_15 : Option Go.Addr), ∃ (x_16 : Nat), ∃ (x_17 : Nat), Go.World.cell? w' (Go.Addr.add (Go.Addr.mk g (0 : Nat)
 Option.none) (7 : Nat)) = Option.some (Go.Value.slice x_15 x_16 x_17) ∧ ∃ (x_18 : Option Go.Addr), ∃ (x_19 : Nat), ∃ (x_20 : Nat), Go.World.cell? w' (Go.Addr.add (Go.Addr.mk g (0 : Nat) Option.none) (8
 : Nat)) = Option.some (Go.Value.slice x_18 x_19 x_20) ∧ Go.Sx.CallsV Go.Proofs.Tryd.prog (18 : Nat) #[Go.Value.agg #[Go.Value.int Go.IntKind.i64 x, Go.Value.int Go.IntKind.i64 x_1, Go.Value.int
 Go.IntKind.i64 x_2, Go.Value.slice x_3 x_4 x_5, Go.Value.slice x_6 x_7 x_8, Go.Value.slice x_9 x_10 x_11, Go.Value.slice x_12 x_13 x_14, Go.Value.slice x_15 x_16 x_17, Go.Value.slice x_18 x_19 x_20]]
 w' fun (v : Go.Value) (w' : Go.World) => ∃ (x : Bool), v = Go.Value.bool x ∧ bif !x then K (Go.Value.int Go.IntKind.i64 (140 : Int)) w' else ∃ (x : Option Go.Addr), ∃ (x_21 : Nat), ∃ (x_22 : Nat),
 Go.World.cell? w' (Go.Addr.add (Go.Addr.mk g (0 : Nat) Option.none) (8 : Nat)) = Option.some (Go.Value.slice x x_21 x_22) ∧ bif Decidable.decide ((↑x_21 : Int) < (1 : Int)) then K (Go.Value.int
 Go.IntKind.i64 (140 : Int)) w' else ∃ (x : Option Go.Addr), ∃ (x_23 : Nat), ∃ (x_24 : Nat), Go.World.cell? w' (Go.Addr.add (Go.Addr.mk g (0 : Nat) Option.none) (8 : Nat)) = Option.some (Go.Value.slice
 x x_23 x_24) ∧ bif Decidable.decide ((4000 : Int) < (↑x_23 : Int)) then K (Go.Value.int Go.IntKind.i64 (140 : Int)) w' else ∃ (x : Option Go.Addr), ∃ (x_25 : Nat), ∃ (x_26 : Nat), Go.World.cell? w'
 (Go.Addr.add (Go.Addr.mk g (0 : Nat) Option.none) (8 : Nat)) = Option.some (Go.Value.slice x x_25 x_26) ∧ ∃ (x_27 : Option Go.Addr), ∃ (x_28 : Nat), ∃ (x_29 : Nat), Go.World.cell? w' (Go.Addr.add
 (Go.Addr.mk g (0 : Nat) Option.none) (8 : Nat)) = Option.some (Go.Value.slice x_27 x_28 x_29) ∧ ∃ (ad : Go.Addr), x = Option.some ad ∧ ((0 : Int) ≤ Go.IntKind.wrap Go.IntKind.i64 ((↑x_28 : Int) - (1 :
 Int)) ∧ Go.IntKind.wrap Go.IntKind.i64 ((↑x_28 : Int) - (1 : Int)) < (↑x_25 : Int)) ∧ ∃ (x : Int), Go.World.cell? w' (Go.Addr.add (Go.Addr.add ad (Int.toNat (Go.IntKind.wrap Go.IntKind.i64 ((↑x_28 :
 Int) - (1 : Int))) * (5 : Nat))) (0 : Nat)) = Option.some (Go.Value.int Go.IntKind.u8 x) ∧ bif !Decidable.decide (x = (35 : Int)) then K (Go.Value.int Go.IntKind.i64 (140 : Int)) w' else ∃ (x : Option
 Go.Addr), ∃ (x_30 : Nat), ∃ (x_31 : Nat), Go.World.cell? w' (Go.Addr.add (Go.Addr.mk g (0 : Nat) Option.none) (8 : Nat)) = Option.some (Go.Value.slice x x_30 x_31) ∧ ∃ (I : Int → Go.World → Prop), ∃ (μ
 : Int → Go.World → Nat), I (0 : Int) w' ∧ ∀ (x_32 : Int) (w : Go.World), I x_32 w → bif Decidable.decide (x_32 < (↑x_30 : Int)) then ∃ (ad : Go.Addr), x = Option.some ad ∧ ((0 : Int) ≤ x_32 ∧ x_32 <
 (↑x_30 : Int)) ∧ ∃ (x : Int), Go.World.cell? w (Go.Addr.add (Go.Addr.add ad (Int.toNat x_32 * (5 : Nat))) (0 : Nat)) = Option.some (Go.Value.int Go.IntKind.u8 x) ∧ ∃ (x_33 : Int), Go.World.cell? w
 (Go.Addr.add (Go.Addr.add ad (Int.toNat x_32 * (5 : Nat))) (1 : Nat)) = Option.some (Go.Value.int Go.IntKind.i64 x_33) ∧ ∃ (x_34 : Int), Go.World.cell? w (Go.Addr.add (Go.Addr.add ad (Int.toNat x_32 *
 (5 : Nat))) (2 : Nat)) = Option.some (Go.Value.int Go.IntKind.i64 x_34) ∧ ∃ (x_35 : Int), Go.World.cell? w (Go.Addr.add (Go.Addr.add ad (Int.toNat x_32 * (5 : Nat))) (3 : Nat)) = Option.some
 (Go.Value.int Go.IntKind.i64 x_35) ∧ ∃ (x_36 : Int), Go.World.cell? w (Go.Addr.add (Go.Addr.add ad (Int.toNat x_32 * (5 : Nat))) (4 : Nat)) = Option.some (Go.Value.int Go.IntKind.i64 x_36) ∧ ∀ (g_1 :
 Nat) (w' : Go.World), Go.Sx.Fresh w g_1 w' [Go.Value.int Go.IntKind.u8 (0 : Int), Go.Value.int Go.IntKind.i64 (0 : Int), Go.Value.int Go.IntKind.i64 (0 : Int), Go.Value.int Go.IntKind.i64 (0 : Int),
 Go.Value.int Go.IntKind.i64 (0 : Int)] (38 : Nat) → Go.Sx.stOK (Go.Addr.mk g_1 (0 : Nat) Option.none) (0 : Nat) [Go.Value.int Go.IntKind.u8 x, Go.Value.int Go.IntKind.i64 x_33, Go.Value.int
 Go.IntKind.i64 x_34, Go.Value.int Go.IntKind.i64 x_35, Go.Value.int Go.IntKind.i64 x_36] w' ∧ ∀ (w'_1 : Go.World), w'_1 = Go.Sx.setAll (Go.Addr.mk g_1 (0 : Nat) Option.none) (0 : Nat) [Go.Value.int
 Go.IntKind.u8 x, Go.Value.int Go.IntKind.i64 x_33, Go.Value.int Go.IntKind.i64 x_34, Go.Value.int Go.IntKind.i64 x_35, Go.Value.int Go.IntKind.i64 x_36] w' → ∃ (x : Int), Go.World.cell? w'_1
 (Go.Addr.add (Go.Addr.mk g_1 (0 : Nat) Option.none) (0 : Nat)) = Option.some (Go.Value.int Go.IntKind.u8 x) ∧ Go.Sx.CallsV Go.Proofs.Tryd.prog (19 : Nat) #[Go.Value.int Go.IntKind.u8 x] w'_1 fun (v :
 Go.Value) (w' : Go.World) => ∃ (x : ByteArray), v = Go.Value.string x ∧ bif ByteArray.toList x == ByteArray.toList (ByteArray.mk #[]) then K (Go.Value.int Go.IntKind.i64 (140 : Int)) w' else ∃ (x_37 :
 Int), Go.World.cell? w' (Go.Addr.add (Go.Addr.mk g_1 (0 : Nat) Option.none) (1 : Nat)) = Option.some (Go.Value.int Go.IntKind.i64 x_37) ∧ ∃ (x_38 : Int), Go.World.cell? w' (Go.Addr.add (Go.Addr.mk g_1
 (0 : Nat) Option.none) (2 : Nat)) = Option.some (Go.Value.int Go.IntKind.i64 x_38) ∧ ∃ (x_39 : Int), Go.World.cell? w' (Go.Addr.add (Go.Addr.mk g_1 (0 : Nat) Option.none) (3 : Nat)) = Option.some
 (Go.Value.int Go.IntKind.i64 x_39) ∧ ∃ (x_40 : Int), Go.World.cell? w' (Go.Addr.add (Go.Addr.mk g_1 (0 : Nat) Option.none) (4 : Nat)) = Option.some (Go.Value.int Go.IntKind.i64 x_40) ∧ ∃ (I_1 : Int →
 Go.World → Prop), ∃ (μ_1 : Int → Go.World → Nat), I_1 (0 : Int) w' ∧ ∀ (x_41 : Int) (w_1 : Go.World), I_1 x_41 w_1 → bif Decidable.decide (x_41 < (4 : Int)) then ((0 : Int) ≤ x_41 ∧ x_41 < (↑(4 : Nat)
 : Int)) ∧ bif Decidable.decide (x_41 = (↑(0 : Nat) : Int)) then ∃ (S : Go.World → Prop), S (Go.World.drew w_1) ∧ ∃ (x_42 : Int), (∀ (u : Go.World), S u → Go.World.cell? u (Go.Addr.add (Go.Addr.mk g (0
 : Nat) Option.none) (0 : Nat)) = Option.some (Go.Value.int Go.IntKind.i64 x_42)) ∧ ∃ (x_43 : Int), (∀ (u : Go.World), S u → Go.World.cell? u (Go.Addr.add (Go.Addr.mk g (0 : Nat) Option.none) (1 : Nat))
 = Option.some (Go.Value.int Go.IntKind.i64 x_43)) ∧ ∃ (x_44 : Int), (∀ (u : Go.World), S u → Go.World.cell? u (Go.Addr.add (Go.Addr.mk g (0 : Nat) Option.none) (2 : Nat)) = Option.some (Go.Value.int
 Go.IntKind.i64 x_44)) ∧ ∃ (x_45 : Option Go.Addr), ∃ (x_46 : Nat), ∃ (x_47 : Nat), (∀ (u : Go.World), S u → Go.World.cell? u (Go.Addr.add (Go.Addr.mk g (0 : Nat) Option.none) (3 : Nat)) = Option.some
 (Go.Value.slice x_45 x_46 x_47)) ∧ ∃ (x_48 : Option Go.Addr), ∃ (x_49 : Nat), ∃ (x_50 : Nat), (∀ (u : Go.World), S u → Go.World.cell? u (Go.Addr.add (Go.Addr.mk g (0 : Nat) Option.none) (4 : Nat)) =
 Option.some (Go.Value.slice x_48 x_49 x_50)) ∧ ∃ (x_51 : Option Go.Addr), ∃ (x_52 : Nat), ∃ (x_53 : Nat), (∀ (u : Go.World), S u → Go.World.cell? u (Go.Addr.add (Go.Addr.mk g (0 : Nat) Option.none) (5
 : Nat)) = Option.some (Go.Value.slice x_51 x_52 x_53)) ∧ ∃ (x_54 : Option Go.Addr), ∃ (x_55 : Nat), ∃ (x_56 : Nat), (∀ (u : Go.World), S u → Go.World.cell? u (Go.Addr.add (Go.Addr.mk g (0 : Nat)
 Option.none) (6 : Nat)) = Option.some (Go.Value.slice x_54 x_55 x_56)) ∧ ∃ (x_57 : Option Go.Addr), ∃ (x_58 : Nat), ∃ (x_59 : Nat), (∀ (u : Go.World), S u → Go.World.cell? u (Go.Addr.add (Go.Addr.mk g
 (0 : Nat) Option.none) (7 : Nat)) = Option.some (Go.Value.slice x_57 x_58 x_59)) ∧ ∃ (x_60 : Option Go.Addr), ∃ (x_61 : Nat), ∃ (x_62 : Nat), (∀ (u : Go.World), S u → Go.World.cell? u (Go.Addr.add
 (Go.Addr.mk g (0 : Nat) Option.none) (8 : Nat)) = Option.some (Go.Value.slice x_60 x_61 x_62)) ∧ ∃ (b : UInt8), ((0 : Int) ≤ x_41 ∧ x[Int.toNat x_41]? = Option.some b) ∧ Go.Sx.CallsV
 Go.Proofs.Tryd.prog (20 : Nat) #[Go.Value.agg #[Go.Value.int Go.IntKind.i64 x_42, Go.Value.int Go.IntKind.i64 x_43, Go.Value.int Go.IntKind.i64 x_44, Go.Value.slice x_45 x_46 x_47, Go.Value.slice x_48
 x_49 x_50, Go.Value.slice x_51 x_52 x_53, Go.Value.slice x_54 x_55 x_56, Go.Value.slice x_57 x_58 x_59, Go.Value.slice x_60 x_61 x_62], Go.Value.int Go.IntKind.i64 x_32, Go.Value.int Go.IntKind.u8
 (↑(UInt8.toNat b) : Int), Go.Value.int Go.IntKind.i64 x_37] (Go.World.drew w_1) fun (v : Go.Value) (w' : Go.World) => ∃ (x : Bool), v = Go.Value.bool x ∧ bif !x then K (Go.Value.int Go.IntKind.i64 (140
 : Int)) w' else I_1 (Go.IntKind.wrap Go.IntKind.i64 (x_41 + (1 : Int))) w' ∧ μ_1 (Go.IntKind.wrap Go.IntKind.i64 (x_41 + (1 : Int))) w' < μ_1 x_41 w_1 else bif Decidable.decide (x_41 = (↑(1 : Nat) :
 Int)) then ∃ (S : Go.World → Prop), S (Go.World.drew w_1) ∧ ∃ (x_42 : Int), (∀ (u : Go.World), S u → Go.World.cell? u (Go.Addr.add (Go.Addr.mk g (0 : Nat) Option.none) (0 : Nat)) = Option.some
 (Go.Value.int Go.IntKind.i64 x_42)) ∧ ∃ (x_43 : Int), (∀ (u : Go.World), S u → Go.World.cell? u (Go.Addr.add (Go.Addr.mk g (0 : Nat) Option.none) (1 : Nat)) = Option.some (Go.Value.int Go.IntKind.i64
 x_43)) ∧ ∃ (x_44 : Int), (∀ (u : Go.World), S u → Go.World.cell? u (Go.Addr.add (Go.Addr.mk g (0 : Nat) Option.none) (2 : Nat)) = Option.some (Go.Value.int Go.IntKind.i64 x_44)) ∧ ∃ (x_45 : Option
 Go.Addr), ∃ (x_46 : Nat), ∃ (x_47 : Nat), (∀ (u : Go.World), S u → Go.World.cell? u (Go.Addr.add (Go.Addr.mk g (0 : Nat) Option.none) (3 : Nat)) = Option.some (Go.Value.slice x_45 x_46 x_47)) ∧ ∃ (x_48
 : Option Go.Addr), ∃ (x_49 : Nat), ∃ (x_50 : Nat), (∀ (u : Go.World), S u → Go.World.cell? u (Go.Addr.add (Go.Addr.mk g (0 : Nat) Option.none) (4 : Nat)) = Option.some (Go.Value.slice x_48 x_49 x_50))
 ∧ ∃ (x_51 : Option Go.Addr), ∃ (x_52 : Nat), ∃ (x_53 : Nat), (∀ (u : Go.World), S u → Go.World.cell? u (Go.Addr.add (Go.Addr.mk g (0 : Nat) Option.none) (5 : Nat)) = Option.some (Go.Value.slice x_51
 x_52 x_53)) ∧ ∃ (x_54 : Option Go.Addr), ∃ (x_55 : Nat), ∃ (x_56 : Nat), (∀ (u : Go.World), S u → Go.World.cell? u (Go.Addr.add (Go.Addr.mk g (0 : Nat) Option.none) (6 : Nat)) = Option.some
 (Go.Value.slice x_54 x_55 x_56)) ∧ ∃ (x_57 : Option Go.Addr), ∃ (x_58 : Nat), ∃ (x_59 : Nat), (∀ (u : Go.World), S u → Go.World.cell? u (Go.Addr.add (Go.Addr.mk g (0 : Nat) Option.none) (7 : Nat)) =
 Option.some (Go.Value.slice x_57 x_58 x_59)) ∧ ∃ (x_60 : Option Go.Addr), ∃ (x_61 : Nat), ∃ (x_62 : Nat), (∀ (u : Go.World), S u → Go.World.cell? u (Go.Addr.add (Go.Addr.mk g (0 : Nat) Option.none) (8
 : Nat)) = Option.some (Go.Value.slice x_60 x_61 x_62)) ∧ ∃ (b : UInt8), ((0 : Int) ≤ x_41 ∧ x[Int.toNat x_41]? = Option.some b) ∧ Go.Sx.CallsV Go.Proofs.Tryd.prog (20 : Nat) #[Go.Value.agg
 #[Go.Value.int Go.IntKind.i64 x_42, Go.Value.int Go.IntKind.i64 x_43, Go.Value.int Go.IntKind.i64 x_44, Go.Value.slice x_45 x_46 x_47, Go.Value.slice x_48 x_49 x_50, Go.Value.slice x_51 x_52 x_53,
 Go.Value.slice x_54 x_55 x_56, Go.Value.slice x_57 x_58 x_59, Go.Value.slice x_60 x_61 x_62], Go.Value.int Go.IntKind.i64 x_32, Go.Value.int Go.IntKind.u8 (↑(UInt8.toNat b) : Int), Go.Value.int
 Go.IntKind.i64 x_38] (Go.World.drew w_1) fun (v : Go.Value) (w' : Go.World) => ∃ (x : Bool), v = Go.Value.bool x ∧ bif !x then K (Go.Value.int Go.IntKind.i64 (140 : Int)) w' else I_1 (Go.IntKind.wrap
 Go.IntKind.i64 (x_41 + (1 : Int))) w' ∧ μ_1 (Go.IntKind.wrap Go.IntKind.i64 (x_41 + (1 : Int))) w' < μ_1 x_41 w_1 else bif Decidable.decide (x_41 = (↑(2 : Nat) : Int)) then ∃ (S : Go.World → Prop), S
 (Go.World.drew w_1) ∧ ∃ (x_42 : Int), (∀ (u : Go.World), S u → Go.World.cell? u (Go.Addr.add (Go.Addr.mk g (0 : Nat) Option.none) (0 : Nat)) = Option.some (Go.Value.int Go.IntKind.i64 x_42)) ∧ ∃ (x_43
 : Int), (∀ (u : Go.World), S u → Go.World.cell? u (Go.Addr.add (Go.Addr.mk g (0 : Nat) Option.none) (1 : Nat)) = Option.some (Go.Value.int Go.IntKind.i64 x_43)) ∧ ∃ (x_44 : Int), (∀ (u : Go.World), S u
 → Go.World.cell? u (Go.Addr.add (Go.Addr.mk g (0 : Nat) Option.none) (2 : Nat)) = Option.some (Go.Value.int Go.IntKind.i64 x_44)) ∧ ∃ (x_45 : Option Go.Addr), ∃ (x_46 : Nat), ∃ (x_47 : Nat), (∀ (u :
 Go.World), S u → Go.World.cell? u (Go.Addr.add (Go.Addr.mk g (0 : Nat) Option.none) (3 : Nat)) = Option.some (Go.Value.slice x_45 x_46 x_47)) ∧ ∃ (x_48 : Option Go.Addr), ∃ (x_49 : Nat), ∃ (x_50 :
 Nat), (∀ (u : Go.World), S u → Go.World.cell? u (Go.Addr.add (Go.Addr.mk g (0 : Nat) Option.none) (4 : Nat)) = Option.some (Go.Value.slice x_48 x_49 x_50)) ∧ ∃ (x_51 : Option Go.Addr), ∃ (x_52 : Nat),
 ∃ (x_53 : Nat), (∀ (u : Go.World), S u → Go.World.cell? u (Go.Addr.add (Go.Addr.mk g (0 : Nat) Option.none) (5 : Nat)) = Option.some (Go.Value.slice x_51 x_52 x_53)) ∧ ∃ (x_54 : Option Go.Addr), ∃
 (x_55 : Nat), ∃ (x_56 : Nat), (∀ (u : Go.World), S u → Go.World.cell? u (Go.Addr.add (Go.Addr.mk g (0 : Nat) Option.none) (6 : Nat)) = Option.some (Go.Value.slice x_54 x_55 x_56)) ∧ ∃ (x_57 : Option
 Go.Addr), ∃ (x_58 : Nat), ∃ (x_59 : Nat), (∀ (u : Go.World), S u → Go.World.cell? u (Go.Addr.add (Go.Addr.mk g (0 : Nat) Option.none) (7 : Nat)) = Option.some (Go.Value.slice x_57 x_58 x_59)) ∧ ∃ (x_60
 : Option Go.Addr), ∃ (x_61 : Nat), ∃ (x_62 : Nat), (∀ (u : Go.World), S u → Go.World.cell? u (Go.Addr.add (Go.Addr.mk g (0 : Nat) Option.none) (8 : Nat)) = Option.some (Go.Value.slice x_60 x_61 x_62))
 ∧ ∃ (b : UInt8), ((0 : Int) ≤ x_41 ∧ x[Int.toNat x_41]? = Option.some b) ∧ Go.Sx.CallsV Go.Proofs.Tryd.prog (20 : Nat) #[Go.Value.agg #[Go.Value.int Go.IntKind.i64 x_42, Go.Value.int Go.IntKind.i64
 x_43, Go.Value.int Go.IntKind.i64 x_44, Go.Value.slice x_45 x_46 x_47, Go.Value.slice x_48 x_49 x_50, Go.Value.slice x_51 x_52 x_53, Go.Value.slice x_54 x_55 x_56, Go.Value.slice x_57 x_58 x_59,
 Go.Value.slice x_60 x_61 x_62], Go.Value.int Go.IntKind.i64 x_32, Go.Value.int Go.IntKind.u8 (↑(UInt8.toNat b) : Int), Go.Value.int Go.IntKind.i64 x_39] (Go.World.drew w_1) fun (v : Go.Value) (w' :
 Go.World) => ∃ (x : Bool), v = Go.Value.bool x ∧ bif !x then K (Go.Value.int Go.IntKind.i64 (140 : Int)) w' else I_1 (Go.IntKind.wrap Go.IntKind.i64 (x_41 + (1 : Int))) w' ∧ μ_1 (Go.IntKind.wrap
 Go.IntKind.i64 (x_41 + (1 : Int))) w' < μ_1 x_41 w_1 else bif Decidable.decide (x_41 = (↑(3 : Nat) : Int)) then ∃ (S : Go.World → Prop), S (Go.World.drew w_1) ∧ ∃ (x_42 : Int), (∀ (u : Go.World), S u →
 Go.World.cell? u (Go.Addr.add (Go.Addr.mk g (0 : Nat) Option.none) (0 : Nat)) = Option.some (Go.Value.int Go.IntKind.i64 x_42)) ∧ ∃ (x_43 : Int), (∀ (u : Go.World), S u → Go.World.cell? u (Go.Addr.add
 (Go.Addr.mk g (0 : Nat) Option.none) (1 : Nat)) = Option.some (Go.Value.int Go.IntKind.i64 x_43)) ∧ ∃ (x_44 : Int), (∀ (u : Go.World), S u → Go.World.cell? u (Go.Addr.add (Go.Addr.mk g (0 : Nat)
 Option.none) (2 : Nat)) = Option.some (Go.Value.int Go.IntKind.i64 x_44)) ∧ ∃ (x_45 : Option Go.Addr), ∃ (x_46 : Nat), ∃ (x_47 : Nat), (∀ (u : Go.World), S u → Go.World.cell? u (Go.Addr.add (Go.Addr.mk
 g (0 : Nat) Option.none) (3 : Nat)) = Option.some (Go.Value.slice x_45 x_46 x_47)) ∧ ∃ (x_48 : Option Go.Addr), ∃ (x_49 : Nat), ∃ (x_50 : Nat), (∀ (u : Go.World), S u → Go.World.cell? u (Go.Addr.add
 (Go.Addr.mk g (0 : Nat) Option.none) (4 : Nat)) = Option.some (Go.Value.slice x_48 x_49 x_50)) ∧ ∃ (x_51 : Option Go.Addr), ∃ (x_52 : Nat), ∃ (x_53 : Nat), (∀ (u : Go.World), S u → Go.World.cell? u
 (Go.Addr.add (Go.Addr.mk g (0 : Nat) Option.none) (5 : Nat)) = Option.some (Go.Value.slice x_51 x_52 x_53)) ∧ ∃ (x_54 : Option Go.Addr), ∃ (x_55 : Nat), ∃ (x_56 : Nat), (∀ (u : Go.World), S u →
 Go.World.cell? u (Go.Addr.add (Go.Addr.mk g (0 : Nat) Option.none) (6 : Nat)) = Option.some (Go.Value.slice x_54 x_55 x_56)) ∧ ∃ (x_57 : Option Go.Addr), ∃ (x_58 : Nat), ∃ (x_59 : Nat), (∀ (u :
 Go.World), S u → Go.World.cell? u (Go.Addr.add (Go.Addr.mk g (0 : Nat) Option.none) (7 : Nat)) = Option.some (Go.Value.slice x_57 x_58 x_59)) ∧ ∃ (x_60 : Option Go.Addr), ∃ (x_61 : Nat), ∃ (x_62 :
 Nat), (∀ (u : Go.World), S u → Go.World.cell? u (Go.Addr.add (Go.Addr.mk g (0 : Nat) Option.none) (8 : Nat)) = Option.some (Go.Value.slice x_60 x_61 x_62)) ∧ ∃ (b : UInt8), ((0 : Int) ≤ x_41 ∧
 x[Int.toNat x_41]? = Option.some b) ∧ Go.Sx.CallsV Go.Proofs.Tryd.prog (20 : Nat) #[Go.Value.agg #[Go.Value.int Go.IntKind.i64 x_42, Go.Value.int Go.IntKind.i64 x_43, Go.Value.int Go.IntKind.i64 x_44,
 Go.Value.slice x_45 x_46 x_47, Go.Value.slice x_48 x_49 x_50, Go.Value.slice x_51 x_52 x_53, Go.Value.slice x_54 x_55 x_56, Go.Value.slice x_57 x_58 x_59, Go.Value.slice x_60 x_61 x_62], Go.Value.int
 Go.IntKind.i64 x_32, Go.Value.int Go.IntKind.u8 (↑(UInt8.toNat b) : Int), Go.Value.int Go.IntKind.i64 x_40] (Go.World.drew w_1) fun (v : Go.Value) (w' : Go.World) => ∃ (x : Bool), v = Go.Value.bool x ∧
 bif !x then K (Go.Value.int Go.IntKind.i64 (140 : Int)) w' else I_1 (Go.IntKind.wrap Go.IntKind.i64 (x_41 + (1 : Int))) w' ∧ μ_1 (Go.IntKind.wrap Go.IntKind.i64 (x_41 + (1 : Int))) w' < μ_1 x_41 w_1
 else False else ∃ (x : Int), Go.World.cell? w_1 (Go.Addr.add (Go.Addr.mk g (0 : Nat) Option.none) (0 : Nat)) = Option.some (Go.Value.int Go.IntKind.i64 x) ∧ ∃ (x_42 : Int), Go.World.cell? w_1
 (Go.Addr.add (Go.Addr.mk g (0 : Nat) Option.none) (1 : Nat)) = Option.some (Go.Value.int Go.IntKind.i64 x_42) ∧ ∃ (x_43 : Int), Go.World.cell? w_1 (Go.Addr.add (Go.Addr.mk g (0 : Nat) Option.none) (2 :
 Nat)) = Option.some (Go.Value.int Go.IntKind.i64 x_43) ∧ ∃ (x_44 : Option Go.Addr), ∃ (x_45 : Nat), ∃ (x_46 : Nat), Go.World.cell? w_1 (Go.Addr.add (Go.Addr.mk g (0 : Nat) Option.none) (3 : Nat)) =
 Option.some (Go.Value.slice x_44 x_45 x_46) ∧ ∃ (x_47 : Option Go.Addr), ∃ (x_48 : Nat), ∃ (x_49 : Nat), Go.World.cell? w_1 (Go.Addr.add (Go.Addr.mk g (0 : Nat) Option.none) (4 : Nat)) = Option.some
 (Go.Value.slice x_47 x_48 x_49) ∧ ∃ (x_50 : Option Go.Addr), ∃ (x_51 : Nat), ∃ (x_52 : Nat), Go.World.cell? w_1 (Go.Addr.add (Go.Addr.mk g (0 : Nat) Option.none) (5 : Nat)) = Option.some
 (Go.Value.slice x_50 x_51 x_52) ∧ ∃ (x_53 : Option Go.Addr), ∃ (x_54 : Nat), ∃ (x_55 : Nat), Go.World.cell? w_1 (Go.Addr.add (Go.Addr.mk g (0 : Nat) Option.none) (6 : Nat)) = Option.some
 (Go.Value.slice x_53 x_54 x_55) ∧ ∃ (x_56 : Option Go.Addr), ∃ (x_57 : Nat), ∃ (x_58 : Nat), Go.World.cell? w_1 (Go.Addr.add (Go.Addr.mk g (0 : Nat) Option.none) (7 : Nat)) = Option.some
 (Go.Value.slice x_56 x_57 x_58) ∧ ∃ (x_59 : Option Go.Addr), ∃ (x_60 : Nat), ∃ (x_61 : Nat), Go.World.cell? w_1 (Go.Addr.add (Go.Addr.mk g (0 : Nat) Option.none) (8 : Nat)) = Option.some
 (Go.Value.slice x_59 x_60 x_61) ∧ Go.Sx.CallsV Go.Proofs.Tryd.prog (21 : Nat) #[Go.Value.agg #[Go.Value.int Go.IntKind.i64 x, Go.Value.int Go.IntKind.i64 x_42, Go.Value.int Go.IntKind.i64 x_43,
 Go.Value.slice x_44 x_45 x_46, Go.Value.slice x_47 x_48 x_49, Go.Value.slice x_50 x_51 x_52, Go.Value.slice x_53 x_54 x_55, Go.Value.slice x_56 x_57 x_58, Go.Value.slice x_59 x_60 x_61], Go.Value.int
 Go.IntKind.i64 x_32] w_1 fun (v : Go.Value) (w' : Go.World) => ∃ (x : Bool), v = Go.Value.bool x ∧ bif !x then K (Go.Value.int Go.IntKind.i64 (140 : Int)) w' else I (Go.IntKind.wrap Go.IntKind.i64
 (x_32 + (1 : Int))) w' ∧ μ (Go.IntKind.wrap Go.IntKind.i64 (x_32 + (1 : Int))) w' < μ x_32 w else K (Go.Value.int Go.IntKind.i64 (0 : Int)) w
theorem code_Check.eq (p0 : Int) (p1 : Int) (p2 : Int) (p3_A : Option Addr) (p3_n : Nat) (p3_c : Nat) (p4_A : Option Addr) (p4_n : Nat) (p4_c : Nat) (p5_A : Option Addr) (p5_n : Nat) (p5_c : Nat) (p6_A : Option Addr) (p6_n : Nat) (p6_c : Nat) (p7_A : Option Addr) (p7_n : Nat) (p7_c : Nat) (p8_A : Option Addr) (p8_n : Nat) (p8_c : Nat) (w : World) (K : Value → World → Prop) : code_Check.W p0 p1 p2 p3_A p3_n p3_c p4_A p4_n p4_c p5_A p5_n p5_c p6_A p6_n p6_c p7_A p7_n p7_c p8_A p8_n p8_c w K = fnW Tryd.prog Tryd.f8 (.named (.seq .auto (.seq .auto (.seq (.seq .auto (.block (.loop [(38, .one (.int .i64))] (.seq .auto (.seq .auto (.seq (.block (.seq .auto (.seq .auto (.seq .auto (.seq (.seq .auto (.block (.loop [(57, .one (.int .i64))] .auto))) .auto))))) .auto)))))) .auto)))) [.agg #[.int .i64 p0, .int .i64 p1, .int .i64 p2, .slice p3_A p3_n p3_c, .slice p4_A p4_n p4_c, .slice p5_A p5_n p5_c, .slice p6_A p6_n p6_c, .slice p7_A p7_n p7_c, .slice p8_A p8_n p8_c]] w K := by kernel_rfl
theorem code_Check.calls (ok : Okay Tryd.prog) {p0 : Int} {p1 : Int} {p2 : Int} {p3_A : Option Addr} {p3_n : Nat} {p3_c : Nat} {p4_A : Option Addr} {p4_n : Nat} {p4_c : Nat} {p5_A : Option Addr} {p5_n : Nat} {p5_c : Nat} {p6_A : Option Addr} {p6_n : Nat} {p6_c : Nat} {p7_A : Option Addr} {p7_n : Nat} {p7_c : Nat} {p8_A : Option Addr} {p8_n : Nat} {p8_c : Nat} {w : World} {K : Value → World → Prop} (h : code_Check.W p0 p1 p2 p3_A p3_n p3_c p4_A p4_n p4_c p5_A p5_n p5_c p6_A p6_n p6_c p7_A p7_n p7_c p8_A p8_n p8_c w K) : CallsV Tryd.prog 8 #[.agg #[.int .i64 p0, .int .i64 p1, .int .i64 p2, .slice p3_A p3_n p3_c, .slice p4_A p4_n p4_c, .slice p5_A p5_n p5_c, .slice p6_A p6_n p6_c, .slice p7_A p7_n p7_c, .slice p8_A p8_n p8_c]] w K :=
  fnW_calls ok Tryd.func8 (an := (.named (.seq .auto (.seq .auto (.seq (.seq .auto (.block (.loop [(38, .one (.int .i64))] (.seq .auto (.seq .auto (.seq (.block (.seq .auto (.seq .auto (.seq .auto (.seq (.seq .auto (.block (.loop [(57, .one (.int .i64))] .auto))) .auto))))) .auto)))))) .auto))))) (args := [.agg #[.int .i64 p0, .int .i64 p1, .int .i64 p2, .slice p3_A p3_n p3_c, .slice p4_A p4_n p4_c, .slice p5_A p5_n p5_c, .slice p6_A p6_n p6_c, .slice p7_A p7_n p7_c, .slice p8_A p8_n p8_c]]) (by rw [← code_Check.eq]; exact h)
noncomputable def code_parts_1.W : Int → Int → Int → World → (Value → World → Prop) → Prop := fun (n low high : Int) (w : Go.World) (K : Go.Value → Go.World → Prop) => bif Decidable.decide (low ≤ n)
 then K (Go.Value.bool (Decidable.decide (n ≤ high))) w else K (Go.Value.bool Bool.false) w
theorem code_parts_1.eq (n : Int) (low : Int) (high : Int) (w : World) (K : Value → World → Prop) : code_parts_1.W n low high w K = fnW Tryd.prog Tryd.f34 (.named .auto) [.int .i64 n, .int .i64 low, .int .i64 high] w K := by kernel_rfl
theorem code_parts_1.calls (ok : Okay Tryd.prog) {n : Int} {low : Int} {high : Int} {w : World} {K : Value → World → Prop} (h : code_parts_1.W n low high w K) : CallsV Tryd.prog 34 #[.int .i64 n, .int .i64 low, .int .i64 high] w K :=
  fnW_calls ok Tryd.func34 (an := (.named .auto)) (args := [.int .i64 n, .int .i64 low, .int .i64 high]) (by rw [← code_parts_1.eq]; exact h)
noncomputable def code_parts_2.W : ByteArray → World → (Value → World → Prop) → Prop := fun (s : ByteArray) (w : Go.World) (K : Go.Value → Go.World → Prop) => K (Go.Value.bool (Decidable.decide ((200 :
 Int) < (↑(ByteArray.size s) : Int)))) w
theorem code_parts_2.eq (s : ByteArray) (w : World) (K : Value → World → Prop) : code_parts_2.W s w K = fnW Tryd.prog Tryd.f35 (.named .auto) [.string s] w K := by kernel_rfl
theorem code_parts_2.calls (ok : Okay Tryd.prog) {s : ByteArray} {w : World} {K : Value → World → Prop} (h : code_parts_2.W s w K) : CallsV Tryd.prog 35 #[.string s] w K :=
  fnW_calls ok Tryd.func35 (an := (.named .auto)) (args := [.string s]) (by rw [← code_parts_2.eq]; exact h)
noncomputable def code_parts_3.W : Int → Int → ByteArray → World → (Value → World → Prop) → Prop := fun (v0 v1 : Int) (v2 : ByteArray) (w : Go.World) (K : Go.Value → Go.World → Prop) => ∀ (g : Nat) (w'
 : Go.World), Go.Sx.Fresh w g w' [Go.Value.int Go.IntKind.u8 v0, Go.Value.int Go.IntKind.i64 v1, Go.Value.string v2] (51 : Nat) → ∃ (x : Int), Go.World.cell? w' (Go.Addr.add (Go.Addr.mk g (0 : Nat)
 Option.none) (0 : Nat)) = Option.some (Go.Value.int Go.IntKind.u8 x) ∧ ∃ (x_1 : Int), Go.World.cell? w' (Go.Addr.add (Go.Addr.mk g (0 : Nat) Option.none) (1 : Nat)) = Option.some (Go.Value.int
 Go.IntKind.i64 x_1) ∧ ∃ (x_2 : ByteArray), Go.World.cell? w' (Go.Addr.add (Go.Addr.mk g (0 : Nat) Option.none) (2 : Nat)) = Option.some (Go.Value.string x_2) ∧ Go.Sx.CallsV Go.Proofs.Tryd.prog (37 :
 Nat) #[Go.Value.agg #[Go.Value.int Go.IntKind.u8 x, Go.Value.int Go.IntKind.i64 x_1, Go.Value.string x_2]] w' fun (v : Go.Value) (w' : Go.World) => ∃ (x : Bool), v = Go.Value.bool x ∧ K (Go.Value.bool
 !x) w'
theorem code_parts_3.eq (v0 : Int) (v1 : Int) (v2 : ByteArray) (w : World) (K : Value → World → Prop) : code_parts_3.W v0 v1 v2 w K = fnW Tryd.prog Tryd.f36 (.named .auto) [.agg #[.int .u8 v0, .int .i64 v1, .string v2]] w K := by kernel_rfl
theorem code_parts_3.calls (ok : Okay Tryd.prog) {v0 : Int} {v1 : Int} {v2 : ByteArray} {w : World} {K : Value → World → Prop} (h : code_parts_3.W v0 v1 v2 w K) : CallsV Tryd.prog 36 #[.agg #[.int .u8 v0, .int .i64 v1, .string v2]] w K :=
  fnW_calls ok Tryd.func36 (an := (.named .auto)) (args := [.agg #[.int .u8 v0, .int .i64 v1, .string v2]]) (by rw [← code_parts_3.eq]; exact h)
noncomputable def code_parts_4.W : ByteArray → Bool → Bool → World → (Value → World → Prop) → Prop := fun (c0 : ByteArray) (c1 c2 : Bool) (w : Go.World) (K : Go.Value → Go.World → Prop) => ∀ (g : Nat)
 (w' : Go.World), Go.Sx.Fresh w g w' [Go.Value.string c0, Go.Value.bool c1, Go.Value.bool c2] (53 : Nat) → ∃ (x : ByteArray), Go.World.cell? w' (Go.Addr.add (Go.Addr.mk g (0 : Nat) Option.none) (0 :
 Nat)) = Option.some (Go.Value.string x) ∧ bif ByteArray.toList x == ByteArray.toList (ByteArray.mk #[]) then K (Go.Value.bool Bool.true) w' else ∃ (x : ByteArray), Go.World.cell? w' (Go.Addr.add
 (Go.Addr.mk g (0 : Nat) Option.none) (0 : Nat)) = Option.some (Go.Value.string x) ∧ bif Decidable.decide ((200 : Int) < (↑(ByteArray.size x) : Int)) then K (Go.Value.bool Bool.true) w' else ∃ (x :
 Bool), Go.World.cell? w' (Go.Addr.add (Go.Addr.mk g (0 : Nat) Option.none) (1 : Nat)) = Option.some (Go.Value.bool x) ∧ bif x then ∃ (x : Bool), Go.World.cell? w' (Go.Addr.add (Go.Addr.mk g (0 : Nat)
 Option.none) (2 : Nat)) = Option.some (Go.Value.bool x) ∧ K (Go.Value.bool x) w' else K (Go.Value.bool Bool.false) w'
theorem code_parts_4.eq (c0 : ByteArray) (c1 : Bool) (c2 : Bool) (w : World) (K : Value → World → Prop) : code_parts_4.W c0 c1 c2 w K = fnW Tryd.prog Tryd.f38 (.named .auto) [.agg #[.string c0, .bool c1, .bool c2]] w K := by kernel_rfl
theorem code_parts_4.calls (ok : Okay Tryd.prog) {c0 : ByteArray} {c1 : Bool} {c2 : Bool} {w : World} {K : Value → World → Prop} (h : code_parts_4.W c0 c1 c2 w K) : CallsV Tryd.prog 38 #[.agg #[.string c0, .bool c1, .bool c2]] w K :=
  fnW_calls ok Tryd.func38 (an := (.named .auto)) (args := [.agg #[.string c0, .bool c1, .bool c2]]) (by rw [← code_parts_4.eq]; exact h)
noncomputable def code_parts_6.W : ByteArray → Bool → World → (Value → World → Prop) → Prop := fun (t0 : ByteArray) (t1 : Bool) (w : Go.World) (K : Go.Value → Go.World → Prop) => ∀ (g : Nat) (w' :
 Go.World), Go.Sx.Fresh w g w' [Go.Value.string t0, Go.Value.bool t1] (58 : Nat) → ∃ (x : ByteArray), Go.World.cell? w' (Go.Addr.add (Go.Addr.mk g (0 : Nat) Option.none) (0 : Nat)) = Option.some
 (Go.Value.string x) ∧ ∃ (x_1 : Bool), Go.World.cell? w' (Go.Addr.add (Go.Addr.mk g (0 : Nat) Option.none) (1 : Nat)) = Option.some (Go.Value.bool x_1) ∧ Go.Sx.CallsV Go.Proofs.Tryd.prog (41 : Nat)
 #[Go.Value.string x, Go.Value.bool x_1] w' fun (v : Go.Value) (w' : Go.World) => ∃ (x : Option Go.Addr), ∃ (x_2 : Int), v = Go.Value.tuple #[Go.Value.pointer x, Go.Value.int Go.IntKind.i64 x_2] ∧ K
 (Go.Value.bool !Decidable.decide (x_2 = (0 : Int))) w'
theorem code_parts_6.eq (t0 : ByteArray) (t1 : Bool) (w : World) (K : Value → World → Prop) : code_parts_6.W t0 t1 w K = fnW Tryd.prog Tryd.f40 (.named .auto) [.agg #[.string t0, .bool t1]] w K := by kernel_rfl
theorem code_parts_6.calls (ok : Okay Tryd.prog) {t0 : ByteArray} {t1 : Bool} {w : World} {K : Value → World → Prop} (h : code_parts_6.W t0 t1 w K) : CallsV Tryd.prog 40 #[.agg #[.string t0, .bool t1]] w K :=
  fnW_calls ok Tryd.func40 (an := (.named .auto)) (args := [.agg #[.string t0, .bool t1]]) (by rw [← code_parts_6.eq]; exact h)
noncomputable def code_shape.W : Int → World → (Value → World → Prop) → Prop := fun (o : Int) (w : Go.World) (K : Go.Value → Go.World → Prop) => ∃ (x : Option Nat), ∃ (w' : Go.World), Go.Sx.RunsTo
 Go.Proofs.Tryd.prog (Go.Instr.makeMap (93 : Nat) Option.none) w (Go.Value.map x) w' ∧ ∃ (w'_1 : Go.World), Go.Sx.RunsTo Go.Proofs.Tryd.prog (Go.Instr.mapUpdate (93 : Nat) (Go.Value.map x) (Go.Value.int
 Go.IntKind.u8 (1 : Int)) (Go.Value.agg #[Go.Value.string (ByteArray.mk #[(114 : UInt8), (107 : UInt8), (45 : UInt8), (45 : UInt8)])])) w' () w'_1 ∧ ∃ (w' : Go.World), Go.Sx.RunsTo Go.Proofs.Tryd.prog
 (Go.Instr.mapUpdate (93 : Nat) (Go.Value.map x) (Go.Value.int Go.IntKind.u8 (2 : Int)) (Go.Value.agg #[Go.Value.string (ByteArray.mk #[(114 : UInt8), (98 : UInt8), (45 : UInt8), (45 : UInt8)])])) w'_1
 () w' ∧ ∃ (w'_2 : Go.World), Go.Sx.RunsTo Go.Proofs.Tryd.prog (Go.Instr.mapUpdate (93 : Nat) (Go.Value.map x) (Go.Value.int Go.IntKind.u8 (3 : Int)) (Go.Value.agg #[Go.Value.string (ByteArray.mk #[(114
 : UInt8), (114 : UInt8), (45 : UInt8), (45 : UInt8)])])) w' () w'_2 ∧ ∃ (w' : Go.World), Go.Sx.RunsTo Go.Proofs.Tryd.prog (Go.Instr.mapUpdate (93 : Nat) (Go.Value.map x) (Go.Value.int Go.IntKind.u8 (4
 : Int)) (Go.Value.agg #[Go.Value.string (ByteArray.mk #[(114 : UInt8), (114 : UInt8), (114 : UInt8), (50 : UInt8)])])) w'_2 () w' ∧ ∃ (w'_3 : Go.World), Go.Sx.RunsTo Go.Proofs.Tryd.prog
 (Go.Instr.mapUpdate (93 : Nat) (Go.Value.map x) (Go.Value.int Go.IntKind.u8 (5 : Int)) (Go.Value.agg #[Go.Value.string (ByteArray.mk #[(114 : UInt8), (114 : UInt8), (45 : UInt8), (49 : UInt8)])])) w'
 () w'_3 ∧ ∃ (w' : Go.World), Go.Sx.RunsTo Go.Proofs.Tryd.prog (Go.Instr.mapUpdate (93 : Nat) (Go.Value.map x) (Go.Value.int Go.IntKind.u8 (6 : Int)) (Go.Value.agg #[Go.Value.string (ByteArray.mk #[(114
 : UInt8), (114 : UInt8), (45 : UInt8), (49 : UInt8)])])) w'_3 () w' ∧ ∃ (w'_4 : Go.World), Go.Sx.RunsTo Go.Proofs.Tryd.prog (Go.Instr.mapUpdate (93 : Nat) (Go.Value.map x) (Go.Value.int Go.IntKind.u8
 (7 : Int)) (Go.Value.agg #[Go.Value.string (ByteArray.mk #[(114 : UInt8), (114 : UInt8), (45 : UInt8), (49 : UInt8)])])) w' () w'_4 ∧ ∃ (w' : Go.World), Go.Sx.RunsTo Go.Proofs.Tryd.prog
 (Go.Instr.mapUpdate (93 : Nat) (Go.Value.map x) (Go.Value.int Go.IntKind.u8 (8 : Int)) (Go.Value.agg #[Go.Value.string (ByteArray.mk #[(114 : UInt8), (114 : UInt8), (109 : UInt8), (102 : UInt8)])]))
 w'_4 () w' ∧ ∃ (w'_5 : Go.World), Go.Sx.RunsTo Go.Proofs.Tryd.prog (Go.Instr.mapUpdate (93 : Nat) (Go.Value.map x) (Go.Value.int Go.IntKind.u8 (9 : Int)) (Go.Value.agg #[Go.Value.string (ByteArray.mk
 #[(114 : UInt8), (45 : UInt8), (45 : UInt8), (49 : UInt8)])])) w' () w'_5 ∧ ∃ (w' : Go.World), Go.Sx.RunsTo Go.Proofs.Tryd.prog (Go.Instr.mapUpdate (93 : Nat) (Go.Value.map x) (Go.Value.int
 Go.IntKind.u8 (10 : Int)) (Go.Value.agg #[Go.Value.string (ByteArray.mk #[(106 : UInt8), (45 : UInt8), (45 : UInt8), (45 : UInt8)])])) w'_5 () w' ∧ ∃ (w'_6 : Go.World), Go.Sx.RunsTo Go.Proofs.Tryd.prog
 (Go.Instr.mapUpdate (93 : Nat) (Go.Value.map x) (Go.Value.int Go.IntKind.u8 (11 : Int)) (Go.Value.agg #[Go.Value.string (ByteArray.mk #[(106 : UInt8), (114 : UInt8), (45 : UInt8), (45 : UInt8)])])) w'
 () w'_6 ∧ ∃ (w' : Go.World), Go.Sx.RunsTo Go.Proofs.Tryd.prog (Go.Instr.mapUpdate (93 : Nat) (Go.Value.map x) (Go.Value.int Go.IntKind.u8 (12 : Int)) (Go.Value.agg #[Go.Value.string (ByteArray.mk
 #[(106 : UInt8), (114 : UInt8), (114 : UInt8), (109 : UInt8)])])) w'_6 () w' ∧ ∃ (w'_7 : Go.World), Go.Sx.RunsTo Go.Proofs.Tryd.prog (Go.Instr.mapUpdate (93 : Nat) (Go.Value.map x) (Go.Value.int
 Go.IntKind.u8 (13 : Int)) (Go.Value.agg #[Go.Value.string (ByteArray.mk #[(99 : UInt8), (106 : UInt8), (45 : UInt8), (45 : UInt8)])])) w' () w'_7 ∧ ∃ (w' : Go.World), Go.Sx.RunsTo Go.Proofs.Tryd.prog
 (Go.Instr.mapUpdate (93 : Nat) (Go.Value.map x) (Go.Value.int Go.IntKind.u8 (14 : Int)) (Go.Value.agg #[Go.Value.string (ByteArray.mk #[(105 : UInt8), (106 : UInt8), (114 : UInt8), (109 : UInt8)])]))
 w'_7 () w' ∧ ∃ (w'_8 : Go.World), Go.Sx.RunsTo Go.Proofs.Tryd.prog (Go.Instr.mapUpdate (93 : Nat) (Go.Value.map x) (Go.Value.int Go.IntKind.u8 (15 : Int)) (Go.Value.agg #[Go.Value.string (ByteArray.mk
 #[(99 : UInt8), (110 : UInt8), (45 : UInt8), (45 : UInt8)])])) w' () w'_8 ∧ ∃ (w' : Go.World), Go.Sx.RunsTo Go.Proofs.Tryd.prog (Go.Instr.mapUpdate (93 : Nat) (Go.Value.map x) (Go.Value.int
 Go.IntKind.u8 (16 : Int)) (Go.Value.agg #[Go.Value.string (ByteArray.mk #[(105 : UInt8), (106 : UInt8), (114 : UInt8), (109 : UInt8)])])) w'_8 () w' ∧ ∃ (w'_9 : Go.World), Go.Sx.RunsTo
 Go.Proofs.Tryd.prog (Go.Instr.mapUpdate (93 : Nat) (Go.Value.map x) (Go.Value.int Go.IntKind.u8 (17 : Int)) (Go.Value.agg #[Go.Value.string (ByteArray.mk #[(108 : UInt8), (106 : UInt8), (114 : UInt8),
 (45 : UInt8)])])) w' () w'_9 ∧ ∃ (w' : Go.World), Go.Sx.RunsTo Go.Proofs.Tryd.prog (Go.Instr.mapUpdate (93 : Nat) (Go.Value.map x) (Go.Value.int Go.IntKind.u8 (18 : Int)) (Go.Value.agg
 #[Go.Value.string (ByteArray.mk #[(114 : UInt8), (99 : UInt8), (120 : UInt8), (45 : UInt8)])])) w'_9 () w' ∧ ∃ (w'_10 : Go.World), Go.Sx.RunsTo Go.Proofs.Tryd.prog (Go.Instr.mapUpdate (93 : Nat)
 (Go.Value.map x) (Go.Value.int Go.IntKind.u8 (19 : Int)) (Go.Value.agg #[Go.Value.string (ByteArray.mk #[(114 : UInt8), (99 : UInt8), (45 : UInt8), (45 : UInt8)])])) w' () w'_10 ∧ ∃ (w' : Go.World),
 Go.Sx.RunsTo Go.Proofs.Tryd.prog (Go.Instr.mapUpdate (93 : Nat) (Go.Value.map x) (Go.Value.int Go.IntKind.u8 (20 : Int)) (Go.Value.agg #[Go.Value.string (ByteArray.mk #[(115 : UInt8), (114 : UInt8),
 (114 : UInt8), (45 : UInt8)])])) w'_10 () w' ∧ ∃ (w'_11 : Go.World), Go.Sx.RunsTo Go.Proofs.Tryd.prog (Go.Instr.mapUpdate (93 : Nat) (Go.Value.map x) (Go.Value.int Go.IntKind.u8 (21 : Int))
 (Go.Value.agg #[Go.Value.string (ByteArray.mk #[(115 : UInt8), (106 : UInt8), (45 : UInt8), (45 : UInt8)])])) w' () w'_11 ∧ ∃ (w' : Go.World), Go.Sx.RunsTo Go.Proofs.Tryd.prog (Go.Instr.mapUpdate (93 :
 Nat) (Go.Value.map x) (Go.Value.int Go.IntKind.u8 (22 : Int)) (Go.Value.agg #[Go.Value.string (ByteArray.mk #[(115 : UInt8), (110 : UInt8), (45 : UInt8), (45 : UInt8)])])) w'_11 () w' ∧ ∃ (w'_12 :
 Go.World), Go.Sx.RunsTo Go.Proofs.Tryd.prog (Go.Instr.mapUpdate (93 : Nat) (Go.Value.map x) (Go.Value.int Go.IntKind.u8 (23 : Int)) (Go.Value.agg #[Go.Value.string (ByteArray.mk #[(114 : UInt8), (115 :
 UInt8), (120 : UInt8), (45 : UInt8)])])) w' () w'_12 ∧ ∃ (w' : Go.World), Go.Sx.RunsTo Go.Proofs.Tryd.prog (Go.Instr.mapUpdate (93 : Nat) (Go.Value.map x) (Go.Value.int Go.IntKind.u8 (24 : Int))
 (Go.Value.agg #[Go.Value.string (ByteArray.mk #[(116 : UInt8), (45 : UInt8), (45 : UInt8), (45 : UInt8)])])) w'_12 () w' ∧ ∃ (w'_13 : Go.World), Go.Sx.RunsTo Go.Proofs.Tryd.prog (Go.Instr.mapUpdate (93
 : Nat) (Go.Value.map x) (Go.Value.int Go.IntKind.u8 (25 : Int)) (Go.Value.agg #[Go.Value.string (ByteArray.mk #[(116 : UInt8), (114 : UInt8), (45 : UInt8), (45 : UInt8)])])) w' () w'_13 ∧ ∃ (w' :
 Go.World), Go.Sx.RunsTo Go.Proofs.Tryd.prog (Go.Instr.mapUpdate (93 : Nat) (Go.Value.map x) (Go.Value.int Go.IntKind.u8 (26 : Int)) (Go.Value.agg #[Go.Value.string (ByteArray.mk #[(114 : UInt8), (116 :
 UInt8), (45 : UInt8), (45 : UInt8)])])) w'_13 () w' ∧ ∃ (w'_14 : Go.World), Go.Sx.RunsTo Go.Proofs.Tryd.prog (Go.Instr.mapUpdate (93 : Nat) (Go.Value.map x) (Go.Value.int Go.IntKind.u8 (27 : Int))
 (Go.Value.agg #[Go.Value.string (ByteArray.mk #[(114 : UInt8), (45 : UInt8), (45 : UInt8), (45 : UInt8)])])) w' () w'_14 ∧ ∃ (w' : Go.World), Go.Sx.RunsTo Go.Proofs.Tryd.prog (Go.Instr.mapUpdate (93 :
 Nat) (Go.Value.map x) (Go.Value.int Go.IntKind.u8 (28 : Int)) (Go.Value.agg #[Go.Value.string (ByteArray.mk #[(114 : UInt8), (119 : UInt8), (45 : UInt8), (45 : UInt8)])])) w'_14 () w' ∧ ∃ (w'_15 :
 Go.World), Go.Sx.RunsTo Go.Proofs.Tryd.prog (Go.Instr.mapUpdate (93 : Nat) (Go.Value.map x) (Go.Value.int Go.IntKind.u8 (29 : Int)) (Go.Value.agg #[Go.Value.string (ByteArray.mk #[(119 : UInt8), (114 :
 UInt8), (114 : UInt8), (45 : UInt8)])])) w' () w'_15 ∧ ∃ (w' : Go.World), Go.Sx.RunsTo Go.Proofs.Tryd.prog (Go.Instr.mapUpdate (93 : Nat) (Go.Value.map x) (Go.Value.int Go.IntKind.u8 (30 : Int))
 (Go.Value.agg #[Go.Value.string (ByteArray.mk #[(119 : UInt8), (114 : UInt8), (45 : UInt8), (45 : UInt8)])])) w'_15 () w' ∧ ∃ (w'_16 : Go.World), Go.Sx.RunsTo Go.Proofs.Tryd.prog (Go.Instr.mapUpdate
 (93 : Nat) (Go.Value.map x) (Go.Value.int Go.IntKind.u8 (31 : Int)) (Go.Value.agg #[Go.Value.string (ByteArray.mk #[(113 : UInt8), (45 : UInt8), (45 : UInt8), (45 : UInt8)])])) w' () w'_16 ∧ ∃ (w' :
 Go.World), Go.Sx.RunsTo Go.Proofs.Tryd.prog (Go.Instr.mapUpdate (93 : Nat) (Go.Value.map x) (Go.Value.int Go.IntKind.u8 (32 : Int)) (Go.Value.agg #[Go.Value.string (ByteArray.mk #[(45 : UInt8), (45 :
 UInt8), (45 : UInt8), (45 : UInt8)])])) w'_16 () w' ∧ ∃ (w'_17 : Go.World), Go.Sx.RunsTo Go.Proofs.Tryd.prog (Go.Instr.mapUpdate (93 : Nat) (Go.Value.map x) (Go.Value.int Go.IntKind.u8 (33 : Int))
 (Go.Value.agg #[Go.Value.string (ByteArray.mk #[(45 : UInt8), (45 : UInt8), (45 : UInt8), (45 : UInt8)])])) w' () w'_17 ∧ ∃ (w' : Go.World), Go.Sx.RunsTo Go.Proofs.Tryd.prog (Go.Instr.mapUpdate (93 :
 Nat) (Go.Value.map x) (Go.Value.int Go.IntKind.u8 (34 : Int)) (Go.Value.agg #[Go.Value.string (ByteArray.mk #[(45 : UInt8), (45 : UInt8), (45 : UInt8), (45 : UInt8)])])) w'_17 () w' ∧ ∃ (w'_18 :
 Go.World), Go.Sx.RunsTo Go.Proofs.Tryd.prog (Go.Instr.mapUpdate (93 : Nat) (Go.Value.map x) (Go.Value.int Go.IntKind.u8 (35 : Int)) (Go.Value.agg #[Go.Value.string (ByteArray.mk #[(45 : UInt8), (45 :
 UInt8), (45 : UInt8), (45 : UInt8)])])) w' () w'_18 ∧ ∃ (x_1 : ByteArray), ∃ (w' : Go.World), Go.Sx.RunsTo Go.Proofs.Tryd.prog (Go.Instr.lookup (93 : Nat) (Go.Value.map x) (Go.Value.int Go.IntKind.u8
 o) Bool.false) w'_18 (Go.Value.agg #[Go.Value.string x_1]) w' ∧ K (Go.Value.string x_1) w'
theorem code_shape.eq (o : Int) (w : World) (K : Value → World → Prop) : code_shape.W o w K = fnW Tryd.prog Tryd.f19 (.named .auto) [.int .u8 o] w K := by kernel_rfl
theorem code_shape.calls (ok : Okay Tryd.prog) {o : Int} {w : World} {K : Value → World → Prop} (h : code_shape.W o w K) : CallsV Tryd.prog 19 #[.int .u8 o] w K :=
  fnW_calls ok Tryd.func19 (an := (.named .auto)) (args := [.int .u8 o]) (by rw [← code_shape.eq]; exact h)
noncomputable def code_field_1.W : Int → Addr → World → (Value → World → Prop) → Prop := fun (high : Int) (a1 : Go.Addr) (w : Go.World) (K : Go.Value → Go.World → Prop) => ∀ (g : Nat) (w' : Go.World),
 Go.Sx.Fresh w g w' [Go.Value.int Go.IntKind.i64 high] (3 : Nat) → K (Go.Value.func (Go.Fn.func (48 : Nat)) #[] #[Go.Value.pointer (Option.some a1), Go.Value.pointer (Option.some (Go.Addr.mk g (0 : Nat)
 Option.none))]) w'
theorem code_field_1.eq (high : Int) (a1 : Addr) (w : World) (K : Value → World → Prop) : code_field_1.W high a1 w K = fnW Tryd.prog Tryd.f47 (.named .auto) [.int .i64 high, .pointer (some a1)] w K := by kernel_rfl
theorem code_field_1.calls (ok : Okay Tryd.prog) {high : Int} {a1 : Addr} {w : World} {K : Value → World → Prop} (h : code_field_1.W high a1 w K) : CallsV Tryd.prog 47 #[.int .i64 high, .pointer (some a1)] w K :=
  fnW_calls ok Tryd.func47 (an := (.named .auto)) (args := [.int .i64 high, .pointer (some a1)]) (by rw [← code_field_1.eq]; exact h)
noncomputable def code_field_1_1.W : Addr → Addr → World → (Value → World → Prop) → Prop := fun (a0 a1 : Go.Addr) (w : Go.World) (K : Go.Value → Go.World → Prop) => ∃ (x : Int), Go.World.cell? w a0 =
 Option.some (Go.Value.int Go.IntKind.i64 x) ∧ bif Decidable.decide ((0 : Int) ≤ x) then ∃ (x : Int), Go.World.cell? w a0 = Option.some (Go.Value.int Go.IntKind.i64 x) ∧ ∃ (x_1 : Int), Go.World.cell? w
 a1 = Option.some (Go.Value.int Go.IntKind.i64 x_1) ∧ K (Go.Value.bool (Decidable.decide (x < x_1))) w else K (Go.Value.bool Bool.false) w
theorem code_field_1_1.eq (a0 : Addr) (a1 : Addr) (w : World) (K : Value → World → Prop) : code_field_1_1.W a0 a1 w K = fnW Tryd.prog Tryd.f48 (.named .auto) [.pointer (some a0), .pointer (some a1)] w K := by kernel_rfl
theorem code_field_1_1.calls (ok : Okay Tryd.prog) {a0 : Addr} {a1 : Addr} {w : World} {K : Value → World → Prop} (h : code_field_1_1.W a0 a1 w K) : CallsV Tryd.prog 48 #[.pointer (some a0), .pointer (some a1)] w K :=
  fnW_calls ok Tryd.func48 (an := (.named .auto)) (args := [.pointer (some a0), .pointer (some a1)]) (by rw [← code_field_1_1.eq]; exact h)
noncomputable def code_field_3.W : Addr → World → (Value → World → Prop) → Prop := fun (a0 : Go.Addr) (w : Go.World) (K : Go.Value → Go.World → Prop) => ∃ (x : Int), Go.World.cell? w a0 = Option.some
 (Go.Value.int Go.IntKind.i64 x) ∧ K (Go.Value.bool (Decidable.decide (x = (0 : Int)))) w
theorem code_field_3.eq (a0 : Addr) (w : World) (K : Value → World → Prop) : code_field_3.W a0 w K = fnW Tryd.prog Tryd.f51 (.named .auto) [.pointer (some a0)] w K := by kernel_rfl
theorem code_field_3.calls (ok : Okay Tryd.prog) {a0 : Addr} {w : World} {K : Value → World → Prop} (h : code_field_3.W a0 w K) : CallsV Tryd.prog 51 #[.pointer (some a0)] w K :=
  fnW_calls ok Tryd.func51 (an := (.named .auto)) (args := [.pointer (some a0)]) (by rw [← code_field_3.eq]; exact h)
noncomputable def code_field_4.W : Addr → Addr → Addr → World → (Value → World → Prop) → Prop := fun (a0 a1 a2 : Go.Addr) (w : Go.World) (K : Go.Value → Go.World → Prop) => ∃ (x : Int), Go.World.cell?
 w a0 = Option.some (Go.Value.int Go.IntKind.i64 x) ∧ ∃ (x_1 : Int), Go.World.cell? w a1 = Option.some (Go.Value.int Go.IntKind.i64 x_1) ∧ bif Decidable.decide (x_1 < x) then ∃ (x : Int), Go.World.cell?
 w a0 = Option.some (Go.Value.int Go.IntKind.i64 x) ∧ ∃ (x_2 : Option Go.Addr), ∃ (x_3 : Nat), ∃ (x_4 : Nat), Go.World.cell? w (Go.Addr.add a2 (8 : Nat)) = Option.some (Go.Value.slice x_2 x_3 x_4) ∧ K
 (Go.Value.bool (Decidable.decide (x < (↑x_3 : Int)))) w else K (Go.Value.bool Bool.false) w
theorem code_field_4.eq (a0 : Addr) (a1 : Addr) (a2 : Addr) (w : World) (K : Value → World → Prop) : code_field_4.W a0 a1 a2 w K = fnW Tryd.prog Tryd.f52 (.named .auto) [.pointer (some a0), .pointer (some a1), .pointer (some a2)] w K := by kernel_rfl
theorem code_field_4.calls (ok : Okay Tryd.prog) {a0 : Addr} {a1 : Addr} {a2 : Addr} {w : World} {K : Value → World → Prop} (h : code_field_4.W a0 a1 a2 w K) : CallsV Tryd.prog 52 #[.pointer (some a0), .pointer (some a1), .pointer (some a2)] w K :=
  fnW_calls ok Tryd.func52 (an := (.named .auto)) (args := [.pointer (some a0), .pointer (some a1), .pointer (some a2)]) (by rw [← code_field_4.eq]; exact h)
noncomputable def code_field_5.W : Addr → Addr → World → (Value → World → Prop) → Prop := fun (a0 a1 : Go.Addr) (w : Go.World) (K : Go.Value → Go.World → Prop) => ∃ (x : Int), Go.World.cell? w a0 =
 Option.some (Go.Value.int Go.IntKind.i64 x) ∧ bif Decidable.decide ((1 : Int) ≤ x) then ∃ (x : Int), Go.World.cell? w a0 = Option.some (Go.Value.int Go.IntKind.i64 x) ∧ ∃ (x_1 : Int), Go.World.cell? w
 a1 = Option.some (Go.Value.int Go.IntKind.i64 x_1) ∧ K (Go.Value.bool (Decidable.decide (x ≤ x_1))) w else K (Go.Value.bool Bool.false) w
theorem code_field_5.eq (a0 : Addr) (a1 : Addr) (w : World) (K : Value → World → Prop) : code_field_5.W a0 a1 w K = fnW Tryd.prog Tryd.f53 (.named .auto) [.pointer (some a0), .pointer (some a1)] w K := by kernel_rfl
theorem code_field_5.calls (ok : Okay Tryd.prog) {a0 : Addr} {a1 : Addr} {w : World} {K : Value → World → Prop} (h : code_field_5.W a0 a1 w K) : CallsV Tryd.prog 53 #[.pointer (some a0), .pointer (some a1)] w K :=
  fnW_calls ok Tryd.func53 (an := (.named .auto)) (args := [.pointer (some a0), .pointer (some a1)]) (by rw [← code_field_5.eq]; exact h)
noncomputable def code_field_6.W : Addr → Addr → World → (Value → World → Prop) → Prop := fun (a0 a1 : Go.Addr) (w : Go.World) (K : Go.Value → Go.World → Prop) => ∃ (x : Int), Go.World.cell? w a0 =
 Option.some (Go.Value.int Go.IntKind.i64 x) ∧ bif Decidable.decide ((1 : Int) ≤ x) then ∃ (x : Int), Go.World.cell? w a0 = Option.some (Go.Value.int Go.IntKind.i64 x) ∧ ∃ (x_1 : Int), Go.World.cell? w
 (Go.Addr.add a1 (1 : Nat)) = Option.some (Go.Value.int Go.IntKind.i64 x_1) ∧ K (Go.Value.bool (Decidable.decide (x ≤ x_1))) w else K (Go.Value.bool Bool.false) w
theorem code_field_6.eq (a0 : Addr) (a1 : Addr) (w : World) (K : Value → World → Prop) : code_field_6.W a0 a1 w K = fnW Tryd.prog Tryd.f54 (.named .auto) [.pointer (some a0), .pointer (some a1)] w K := by kernel_rfl
theorem code_field_6.calls (ok : Okay Tryd.prog) {a0 : Addr} {a1 : Addr} {w : World} {K : Value → World → Prop} (h : code_field_6.W a0 a1 w K) : CallsV Tryd.prog 54 #[.pointer (some a0), .pointer (some a1)] w K :=
  fnW_calls ok Tryd.func54 (an := (.named .auto)) (args := [.pointer (some a0), .pointer (some a1)]) (by rw [← code_field_6.eq]; exact h)
noncomputable def code_field_7.W : ByteArray → Bool → Bool → World → (Value → World → Prop) → Prop := fun (c0 : ByteArray) (c1 c2 : Bool) (w : Go.World) (K : Go.Value → Go.World → Prop) => ∀ (g : Nat)
 (w' : Go.World), Go.Sx.Fresh w g w' [Go.Value.string c0, Go.Value.bool c1, Go.Value.bool c2] (53 : Nat) → ∃ (x : Bool), Go.World.cell? w' (Go.Addr.add (Go.Addr.mk g (0 : Nat) Option.none) (1 : Nat)) =
 Option.some (Go.Value.bool x) ∧ K (Go.Value.bool x) w'
theorem code_field_7.eq (c0 : ByteArray) (c1 : Bool) (c2 : Bool) (w : World) (K : Value → World → Prop) : code_field_7.W c0 c1 c2 w K = fnW Tryd.prog Tryd.f55 (.named .auto) [.agg #[.string c0, .bool c1, .bool c2]] w K := by kernel_rfl
theorem code_field_7.calls (ok : Okay Tryd.prog) {c0 : ByteArray} {c1 : Bool} {c2 : Bool} {w : World} {K : Value → World → Prop} (h : code_field_7.W c0 c1 c2 w K) : CallsV Tryd.prog 55 #[.agg #[.string c0, .bool c1, .bool c2]] w K :=
  fnW_calls ok Tryd.func55 (an := (.named .auto)) (args := [.agg #[.string c0, .bool c1, .bool c2]]) (by rw [← code_field_7.eq]; exact h)
noncomputable def code_field_8.W : ByteArray → Bool → Bool → World → (Value → World → Prop) → Prop := fun (c0 : ByteArray) (c1 c2 : Bool) (w : Go.World) (K : Go.Value → Go.World → Prop) => ∀ (g : Nat)
 (w' : Go.World), Go.Sx.Fresh w g w' [Go.Value.string c0, Go.Value.bool c1, Go.Value.bool c2] (53 : Nat) → ∃ (x : Bool), Go.World.cell? w' (Go.Addr.add (Go.Addr.mk g (0 : Nat) Option.none) (1 : Nat)) =
 Option.some (Go.Value.bool x) ∧ K (Go.Value.bool !x) w'
theorem code_field_8.eq (c0 : ByteArray) (c1 : Bool) (c2 : Bool) (w : World) (K : Value → World → Prop) : code_field_8.W c0 c1 c2 w K = fnW Tryd.prog Tryd.f56 (.named .auto) [.agg #[.string c0, .bool c1, .bool c2]] w K := by kernel_rfl
theorem code_field_8.calls (ok : Okay Tryd.prog) {c0 : ByteArray} {c1 : Bool} {c2 : Bool} {w : World} {K : Value → World → Prop} (h : code_field_8.W c0 c1 c2 w K) : CallsV Tryd.prog 56 #[.agg #[.string c0, .bool c1, .bool c2]] w K :=
  fnW_calls ok Tryd.func56 (an := (.named .auto)) (args := [.agg #[.string c0, .bool c1, .bool c2]]) (by rw [← code_field_8.eq]; exact h)
noncomputable def code_field_9.W : ByteArray → Bool → Bool → World → (Value → World → Prop) → Prop := fun (c0 : ByteArray) (c1 c2 : Bool) (w : Go.World) (K : Go.Value → Go.World → Prop) => ∀ (g : Nat)
 (w' : Go.World), Go.Sx.Fresh w g w' [Go.Value.string c0, Go.Value.bool c1, Go.Value.bool c2] (53 : Nat) → ∃ (x : Bool), Go.World.cell? w' (Go.Addr.add (Go.Addr.mk g (0 : Nat) Option.none) (1 : Nat)) =
 Option.some (Go.Value.bool x) ∧ bif !x then ∃ (x : Bool), Go.World.cell? w' (Go.Addr.add (Go.Addr.mk g (0 : Nat) Option.none) (2 : Nat)) = Option.some (Go.Value.bool x) ∧ K (Go.Value.bool x) w' else K
 (Go.Value.bool Bool.false) w'
theorem code_field_9.eq (c0 : ByteArray) (c1 : Bool) (c2 : Bool) (w : World) (K : Value → World → Prop) : code_field_9.W c0 c1 c2 w K = fnW Tryd.prog Tryd.f57 (.named .auto) [.agg #[.string c0, .bool c1, .bool c2]] w K := by kernel_rfl
theorem code_field_9.calls (ok : Okay Tryd.prog) {c0 : ByteArray} {c1 : Bool} {c2 : Bool} {w : World} {K : Value → World → Prop} (h : code_field_9.W c0 c1 c2 w K) : CallsV Tryd.prog 57 #[.agg #[.string c0, .bool c1, .bool c2]] w K :=
  fnW_calls ok Tryd.func57 (an := (.named .auto)) (args := [.agg #[.string c0, .bool c1, .bool c2]]) (by rw [← code_field_9.eq]; exact h)
noncomputable def code_runs.W : Int → Int → Int → Option Addr → Nat → Nat → Option Addr → Nat → Nat → Option Addr → Nat → Nat → Option Addr → Nat → Nat → Option Addr → Nat → Nat → Option Addr → Nat →
 Nat → Int → World → (Value → World → Prop) → Prop := fun (p0 p1 p2 : Int) (p3_A : Option Go.Addr) (p3_n p3_c : Nat) (p4_A : Option Go.Addr) (p4_n p4_c : Nat) (p5_A : Option Go.Addr) (p5_n p5_c : Nat)
 (p6_A : Option Go.Addr) (p6_n p6_c : Nat) (p7_A : Option Go.Addr) (p7_n p7_c : Nat) (p8_A : Option Go.Addr) (p8_n p8_c : Nat) (atx : Int) (w : Go.World) (K : Go.Value → Go.World → Prop) => ∀ (g : Nat)
 (w' : Go.World), Go.Sx.Fresh w g w' [Go.Value.int Go.IntKind.i64 p0, Go.Value.int Go.IntKind.i64 p1, Go.Value.int Go.IntKind.i64 p2, Go.Value.slice p3_A p3_n p3_c, Go.Value.slice p4_A p4_n p4_c,
 Go.Value.slice p5_A p5_n p5_c, Go.Value.slice p6_A p6_n p6_c, Go.Value.slice p7_A p7_n p7_c, Go.Value.slice p8_A p8_n p8_c] (29 : Nat) → ∃ (x : Option Go.Addr), ∃ (x_1 : Nat), ∃ (x_2 : Nat),
 Go.World.cell? w' (Go.Addr.add (Go.Addr.mk g (0 : Nat) Option.none) (8 : Nat)) = Option.some (Go.Value.slice x x_1 x_2) ∧ ∃ (ad : Go.Addr), x = Option.some ad ∧ ((0 : Int) ≤ atx ∧ atx < (↑x_1 : Int)) ∧
 ∃ (x : Int), Go.World.cell? w' (Go.Addr.add (Go.Addr.add ad (Int.toNat atx * (5 : Nat))) (0 : Nat)) = Option.some (Go.Value.int Go.IntKind.u8 x) ∧ ∃ (x_3 : Int), Go.World.cell? w' (Go.Addr.add
 (Go.Addr.add ad (Int.toNat atx * (5 : Nat))) (1 : Nat)) = Option.some (Go.Value.int Go.IntKind.i64 x_3) ∧ ∃ (x_4 : Int), Go.World.cell? w' (Go.Addr.add (Go.Addr.add ad (Int.toNat atx * (5 : Nat))) (2 :
 Nat)) = Option.some (Go.Value.int Go.IntKind.i64 x_4) ∧ ∃ (x_5 : Int), Go.World.cell? w' (Go.Addr.add (Go.Addr.add ad (Int.toNat atx * (5 : Nat))) (3 : Nat)) = Option.some (Go.Value.int Go.IntKind.i64
 x_5) ∧ ∃ (x_6 : Int), Go.World.cell? w' (Go.Addr.add (Go.Addr.add ad (Int.toNat atx * (5 : Nat))) (4 : Nat)) = Option.some (Go.Value.int Go.IntKind.i64 x_6) ∧ ∀ (g_1 : Nat) (w'_1 : Go.World),
 Go.Sx.Fresh w' g_1 w'_1 [Go.Value.int Go.IntKind.u8 (0 : Int), Go.Value.int Go.IntKind.i64 (0 : Int), Go.Value.int Go.IntKind.i64 (0 : Int), Go.Value.int Go.IntKind.i64 (0 : Int), Go.Value.int
 Go.IntKind.i64 (0 : Int)] (38 : Nat) → Go.Sx.stOK (Go.Addr.mk g_1 (0 : Nat) Option.none) (0 : Nat) [Go.Value.int Go.IntKind.u8 x, Go.Value.int Go.IntKind.i64 x_3, Go.Value.int Go.IntKind.i64 x_4,
 Go.Value.int Go.IntKind.i64 x_5, Go.Value.int Go.IntKind.i64 x_6] w'_1 ∧ ∀ (w' : Go.World), w' = Go.Sx.setAll (Go.Addr.mk g_1 (0 : Nat) Option.none) (0 : Nat) [Go.Value.int Go.IntKind.u8 x,
 Go.Value.int Go.IntKind.i64 x_3, Go.Value.int Go.IntKind.i64 x_4, Go.Value.int Go.IntKind.i64 x_5, Go.Value.int Go.IntKind.i64 x_6] w'_1 → ∃ (x : Int), Go.World.cell? w' (Go.Addr.add (Go.Addr.mk g_1 (0
 : Nat) Option.none) (0 : Nat)) = Option.some (Go.Value.int Go.IntKind.u8 x) ∧ bif Decidable.decide (x = (8 : Int)) then ∃ (x : Int), Go.World.cell? w' (Go.Addr.add (Go.Addr.mk g_1 (0 : Nat)
 Option.none) (4 : Nat)) = Option.some (Go.Value.int Go.IntKind.i64 x) ∧ Go.Sx.CallsV Go.Proofs.Tryd.prog (60 : Nat) #[Go.Value.int Go.IntKind.i64 x] w' fun (v : Go.Value) (w' : Go.World) => ∃ (x :
 ByteArray), ∃ (x_7 : Bool), v = Go.Value.tuple #[Go.Value.string x, Go.Value.bool x_7] ∧ ∃ (x_8 : Int), Go.World.cell? w' (Go.Addr.add (Go.Addr.mk g_1 (0 : Nat) Option.none) (3 : Nat)) = Option.some
 (Go.Value.int Go.IntKind.i64 x_8) ∧ bif Decidable.decide (x_8 ≤ (100 : Int)) then ∃ (x_9 : Int), Go.World.cell? w' (Go.Addr.add (Go.Addr.mk g_1 (0 : Nat) Option.none) (2 : Nat)) = Option.some
 (Go.Value.int Go.IntKind.i64 x_9) ∧ ∃ (x_10 : Int), Go.World.cell? w' (Go.Addr.add (Go.Addr.mk g_1 (0 : Nat) Option.none) (3 : Nat)) = Option.some (Go.Value.int Go.IntKind.i64 x_10) ∧ Go.Sx.CallsV
 Go.Proofs.Tryd.prog (59 : Nat) #[Go.Value.int Go.IntKind.i64 x_9, Go.Value.int Go.IntKind.i64 x_10, Go.Value.pointer (Option.some (Go.Addr.mk g (0 : Nat) Option.none))] w' fun (v : Go.Value) (w' :
 Go.World) => ∃ (x_11 : Bool), v = Go.Value.bool x_11 ∧ bif x_11 then ∃ (x_12 : Int), Go.World.cell? w' (Go.Addr.add (Go.Addr.mk g_1 (0 : Nat) Option.none) (3 : Nat)) = Option.some (Go.Value.int
 Go.IntKind.i64 x_12) ∧ Go.Sx.CallsV Go.Proofs.Tryd.prog (61 : Nat) #[Go.Value.string x, Go.Value.int Go.IntKind.i64 x_12] w' fun (v : Go.Value) (w' : Go.World) => ∃ (x : Bool), v = Go.Value.bool x ∧ K
 (Go.Value.bool x) w' else K (Go.Value.bool Bool.false) w' else K (Go.Value.bool Bool.false) w' else bif Decidable.decide (x = (12 : Int)) then ∃ (x : Int), Go.World.cell? w' (Go.Addr.add (Go.Addr.mk
 g_1 (0 : Nat) Option.none) (2 : Nat)) = Option.some (Go.Value.int Go.IntKind.i64 x) ∧ ∃ (x_7 : Int), Go.World.cell? w' (Go.Addr.add (Go.Addr.mk g_1 (0 : Nat) Option.none) (4 : Nat)) = Option.some
 (Go.Value.int Go.IntKind.i64 x_7) ∧ Go.Sx.CallsV Go.Proofs.Tryd.prog (59 : Nat) #[Go.Value.int Go.IntKind.i64 x, Go.Value.int Go.IntKind.i64 x_7, Go.Value.pointer (Option.some (Go.Addr.mk g (0 : Nat)
 Option.none))] w' fun (v : Go.Value) (w' : Go.World) => ∃ (x : Bool), v = Go.Value.bool x ∧ bif x then ∃ (x : Int), Go.World.cell? w' (Go.Addr.add (Go.Addr.mk g_1 (0 : Nat) Option.none) (3 : Nat)) =
 Option.some (Go.Value.int Go.IntKind.i64 x) ∧ ∃ (x_8 : Int), Go.World.cell? w' (Go.Addr.add (Go.Addr.mk g_1 (0 : Nat) Option.none) (4 : Nat)) = Option.some (Go.Value.int Go.IntKind.i64 x_8) ∧
 Go.Sx.CallsV Go.Proofs.Tryd.prog (59 : Nat) #[Go.Value.int Go.IntKind.i64 x, Go.Value.int Go.IntKind.i64 x_8, Go.Value.pointer (Option.some (Go.Addr.mk g (0 : Nat) Option.none))] w' fun (v : Go.Value)
 (w' : Go.World) => ∃ (x : Bool), v = Go.Value.bool x ∧ K (Go.Value.bool x) w' else K (Go.Value.bool Bool.false) w' else ∃ (J : Bool → Go.World → Prop), (∀ (x_7 : Bool) (w : Go.World), J x_7 w → bif x_7
 then ∃ (x : Int), Go.World.cell? w (Go.Addr.add (Go.Addr.mk g_1 (0 : Nat) Option.none) (3 : Nat)) = Option.some (Go.Value.int Go.IntKind.i64 x) ∧ ∃ (x_8 : Int), Go.World.cell? w (Go.Addr.add
 (Go.Addr.mk g_1 (0 : Nat) Option.none) (4 : Nat)) = Option.some (Go.Value.int Go.IntKind.i64 x_8) ∧ Go.Sx.CallsV Go.Proofs.Tryd.prog (59 : Nat) #[Go.Value.int Go.IntKind.i64 x, Go.Value.int
 Go.IntKind.i64 x_8, Go.Value.pointer (Option.some (Go.Addr.mk g (0 : Nat) Option.none))] w fun (v : Go.Value) (w' : Go.World) => ∃ (x : Bool), v = Go.Value.bool x ∧ K (Go.Value.bool x) w' else bif
 Decidable.decide (x = (18 : Int)) then ∃ (x : Int), Go.World.cell? w (Go.Addr.add (Go.Addr.mk g_1 (0 : Nat) Option.none) (3 : Nat)) = Option.some (Go.Value.int Go.IntKind.i64 x) ∧ K (Go.Value.bool
 (Decidable.decide (x < (30 : Int)))) w else bif Decidable.decide (x = (23 : Int)) then ∃ (S : Go.World → Prop), S (Go.World.drew w) ∧ ∃ (x : Int), (∀ (u : Go.World), S u → Go.World.cell? u (Go.Addr.add
 (Go.Addr.mk g_1 (0 : Nat) Option.none) (3 : Nat)) = Option.some (Go.Value.int Go.IntKind.i64 x)) ∧ ∃ (x_8 : Option Go.Addr), ∃ (x_9 : Nat), ∃ (x_10 : Nat), (∀ (u : Go.World), S u → Go.World.cell? u
 (Go.Addr.add (Go.Addr.mk g (0 : Nat) Option.none) (6 : Nat)) = Option.some (Go.Value.slice x_8 x_9 x_10)) ∧ ∃ (x_11 : Int), (∀ (u : Go.World), S u → Go.World.cell? u (Go.Addr.add (Go.Addr.mk g_1 (0 :
 Nat) Option.none) (2 : Nat)) = Option.some (Go.Value.int Go.IntKind.i64 x_11)) ∧ ∃ (ad : Go.Addr), x_8 = Option.some ad ∧ ((0 : Int) ≤ x_11 ∧ x_11 < (↑x_9 : Int)) ∧ ∃ (x_12 : Int), (∀ (u : Go.World), S
 u → Go.World.cell? u (Go.Addr.add (Go.Addr.add ad (Int.toNat x_11 * (3 : Nat))) (1 : Nat)) = Option.some (Go.Value.int Go.IntKind.i64 x_12)) ∧ K (Go.Value.bool (Decidable.decide (x < x_12)))
 (Go.World.drew w) else bif Decidable.decide (x = (20 : Int)) then ∃ (S : Go.World → Prop), S (Go.World.drew w) ∧ ∃ (x : Int), (∀ (u : Go.World), S u → Go.World.cell? u (Go.Addr.add (Go.Addr.mk g_1 (0 :
 Nat) Option.none) (2 : Nat)) = Option.some (Go.Value.int Go.IntKind.i64 x)) ∧ ∃ (x_8 : Option Go.Addr), ∃ (x_9 : Nat), ∃ (x_10 : Nat), (∀ (u : Go.World), S u → Go.World.cell? u (Go.Addr.add (Go.Addr.mk
 g (0 : Nat) Option.none) (6 : Nat)) = Option.some (Go.Value.slice x_8 x_9 x_10)) ∧ ∃ (x_11 : Int), (∀ (u : Go.World), S u → Go.World.cell? u (Go.Addr.add (Go.Addr.mk g_1 (0 : Nat) Option.none) (1 :
 Nat)) = Option.some (Go.Value.int Go.IntKind.i64 x_11)) ∧ ∃ (ad : Go.Addr), x_8 = Option.some ad ∧ ((0 : Int) ≤ x_11 ∧ x_11 < (↑x_9 : Int)) ∧ ∃ (x_12 : Option Go.Addr), ∃ (x_13 : Nat), ∃ (x_14 : Nat),
 (∀ (u : Go.World), S u → Go.World.cell? u (Go.Addr.add (Go.Addr.add ad (Int.toNat x_11 * (3 : Nat))) (0 : Nat)) = Option.some (Go.Value.slice x_12 x_13 x_14)) ∧ Go.Sx.CallsV Go.Proofs.Tryd.prog (59 :
 Nat) #[Go.Value.int Go.IntKind.i64 x, Go.Value.int Go.IntKind.i64 (↑x_13 : Int), Go.Value.pointer (Option.some (Go.Addr.mk g (0 : Nat) Option.none))] (Go.World.drew w) fun (v : Go.Value) (w' :
 Go.World) => ∃ (x : Bool), v = Go.Value.bool x ∧ S w' ∧ bif x then ∃ (S_1 : Go.World → Prop), S_1 w' ∧ ∃ (x : Int), (∀ (u : Go.World), S_1 u → Go.World.cell? u (Go.Addr.add (Go.Addr.mk g_1 (0 : Nat)
 Option.none) (3 : Nat)) = Option.some (Go.Value.int Go.IntKind.i64 x)) ∧ ∃ (x_15 : Option Go.Addr), ∃ (x_16 : Nat), ∃ (x_17 : Nat), (∀ (u : Go.World), S_1 u → Go.World.cell? u (Go.Addr.add (Go.Addr.mk
 g (0 : Nat) Option.none) (6 : Nat)) = Option.some (Go.Value.slice x_15 x_16 x_17)) ∧ ∃ (x_18 : Int), (∀ (u : Go.World), S_1 u → Go.World.cell? u (Go.Addr.add (Go.Addr.mk g_1 (0 : Nat) Option.none) (1 :
 Nat)) = Option.some (Go.Value.int Go.IntKind.i64 x_18)) ∧ ∃ (ad : Go.Addr), x_15 = Option.some ad ∧ ((0 : Int) ≤ x_18 ∧ x_18 < (↑x_16 : Int)) ∧ ∃ (x_19 : Int), (∀ (u : Go.World), S_1 u → Go.World.cell?
 u (Go.Addr.add (Go.Addr.add ad (Int.toNat x_18 * (3 : Nat))) (1 : Nat)) = Option.some (Go.Value.int Go.IntKind.i64 x_19)) ∧ Go.Sx.CallsV Go.Proofs.Tryd.prog (59 : Nat) #[Go.Value.int Go.IntKind.i64 x,
 Go.Value.int Go.IntKind.i64 x_19, Go.Value.pointer (Option.some (Go.Addr.mk g (0 : Nat) Option.none))] w' fun (v : Go.Value) (w' : Go.World) => ∃ (x : Bool), v = Go.Value.bool x ∧ S_1 w' ∧ S w' ∧ K
 (Go.Value.bool x) w' else K (Go.Value.bool Bool.false) w' else bif Decidable.decide (x = (27 : Int)) then ∃ (x : Int), Go.World.cell? w (Go.Addr.add (Go.Addr.mk g_1 (0 : Nat) Option.none) (1 : Nat)) =
 Option.some (Go.Value.int Go.IntKind.i64 x) ∧ ∃ (x_8 : Option Go.Addr), ∃ (x_9 : Nat), ∃ (x_10 : Nat), Go.World.cell? w (Go.Addr.add (Go.Addr.mk g (0 : Nat) Option.none) (3 : Nat)) = Option.some
 (Go.Value.slice x_8 x_9 x_10) ∧ Go.Sx.CallsV Go.Proofs.Tryd.prog (59 : Nat) #[Go.Value.int Go.IntKind.i64 x, Go.Value.int Go.IntKind.i64 (↑x_9 : Int), Go.Value.pointer (Option.some (Go.Addr.mk g (0 :
 Nat) Option.none))] w fun (v : Go.Value) (w' : Go.World) => ∃ (x : Bool), v = Go.Value.bool x ∧ K (Go.Value.bool x) w' else ∃ (J : Bool → Go.World → Prop), (∀ (x : Bool) (w : Go.World), J x w → bif x
 then bif Decidable.decide (atx = (0 : Int)) then ∃ (x : Option Go.Addr), ∃ (x_8 : Nat), ∃ (x_9 : Nat), Go.World.cell? w (Go.Addr.add (Go.Addr.mk g (0 : Nat) Option.none) (8 : Nat)) = Option.some
 (Go.Value.slice x x_8 x_9) ∧ K (Go.Value.bool (Decidable.decide ((↑x_8 : Int) = (2 : Int)))) w else K (Go.Value.bool Bool.false) w else K (Go.Value.bool Bool.true) w) ∧ bif Decidable.decide (x = (31 :
 Int)) then J (Decidable.decide (x = (31 : Int))) w else bif Decidable.decide (x = (32 : Int)) then J (Decidable.decide (x = (32 : Int))) w else bif Decidable.decide (x = (33 : Int)) then J
 (Decidable.decide (x = (33 : Int))) w else J (Decidable.decide (x = (34 : Int))) w) ∧ bif Decidable.decide (x = (14 : Int)) then J (Decidable.decide (x = (14 : Int))) w' else J (Decidable.decide (x =
 (16 : Int))) w'
theorem code_runs.eq (p0 : Int) (p1 : Int) (p2 : Int) (p3_A : Option Addr) (p3_n : Nat) (p3_c : Nat) (p4_A : Option Addr) (p4_n : Nat) (p4_c : Nat) (p5_A : Option Addr) (p5_n : Nat) (p5_c : Nat) (p6_A : Option Addr) (p6_n : Nat) (p6_c : Nat) (p7_A : Option Addr) (p7_n : Nat) (p7_c : Nat) (p8_A : Option Addr) (p8_n : Nat) (p8_c : Nat) (atx : Int) (w : World) (K : Value → World → Prop) : code_runs.W p0 p1 p2 p3_A p3_n p3_c p4_A p4_n p4_c p5_A p5_n p5_c p6_A p6_n p6_c p7_A p7_n p7_c p8_A p8_n p8_c atx w K = fnW Tryd.prog Tryd.f21 (.named (.seq .auto (.seq .auto (.seq .auto (.seq (.seq .auto (.block (.seq .auto (.cond .auto (.seq .auto (.cond .auto (.join [(58, .one .bool)] .auto (.cond .auto (.seq .auto (.cond .auto (.seq .auto (.cond .auto (.seq .auto (.cond .auto (.seq .auto (.cond .auto (.join [(120, .one .bool)] .auto .auto))))))))))))))))) .auto))))) [.agg #[.int .i64 p0, .int .i64 p1, .int .i64 p2, .slice p3_A p3_n p3_c, .slice p4_A p4_n p4_c, .slice p5_A p5_n p5_c, .slice p6_A p6_n p6_c, .slice p7_A p7_n p7_c, .slice p8_A p8_n p8_c], .int .i64 atx] w K := by kernel_rfl
theorem code_runs.calls (ok : Okay Tryd.prog) {p0 : Int} {p1 : Int} {p2 : Int} {p3_A : Option Addr} {p3_n : Nat} {p3_c : Nat} {p4_A : Option Addr} {p4_n : Nat} {p4_c : Nat} {p5_A : Option Addr} {p5_n : Nat} {p5_c : Nat} {p6_A : Option Addr} {p6_n : Nat} {p6_c : Nat} {p7_A : Option Addr} {p7_n : Nat} {p7_c : Nat} {p8_A : Option Addr} {p8_n : Nat} {p8_c : Nat} {atx : Int} {w : World} {K : Value → World → Prop} (h : code_runs.W p0 p1 p2 p3_A p3_n p3_c p4_A p4_n p4_c p5_A p5_n p5_c p6_A p6_n p6_c p7_A p7_n p7_c p8_A p8_n p8_c atx w K) : CallsV Tryd.prog 21 #[.agg #[.int .i64 p0, .int .i64 p1, .int .i64 p2, .slice p3_A p3_n p3_c, .slice p4_A p4_n p4_c, .slice p5_A p5_n p5_c, .slice p6_A p6_n p6_c, .slice p7_A p7_n p7_c, .slice p8_A p8_n p8_c], .int .i64 atx] w K :=
  fnW_calls ok Tryd.func21 (an := (.named (.seq .auto (.seq .auto (.seq .auto (.seq (.seq .auto (.block (.seq .auto (.cond .auto (.seq .auto (.cond .auto (.join [(58, .one .bool)] .auto (.cond .auto (.seq .auto (.cond .auto (.seq .auto (.cond .auto (.seq .auto (.cond .auto (.seq .auto (.cond .auto (.join [(120, .one .bool)] .auto .auto))))))))))))))))) .auto)))))) (args := [.agg #[.int .i64 p0, .int .i64 p1, .int .i64 p2, .slice p3_A p3_n p3_c, .slice p4_A p4_n p4_c, .slice p5_A p5_n p5_c, .slice p6_A p6_n p6_c, .slice p7_A p7_n p7_c, .slice p8_A p8_n p8_c], .int .i64 atx]) (by rw [← code_runs.eq]; exact h)
noncomputable def code_runs_1.W : Int → Int → Addr → World → (Value → World → Prop) → Prop := fun (fromx many : Int) (a2 : Go.Addr) (w : Go.World) (K : Go.Value → Go.World → Prop) => ∃ (x : Int),
 Go.World.cell? w (Go.Addr.add a2 (1 : Nat)) = Option.some (Go.Value.int Go.IntKind.i64 x) ∧ K (Go.Value.bool (Decidable.decide (many ≤ Go.IntKind.wrap Go.IntKind.i64 (x - fromx)))) w
theorem code_runs_1.eq (fromx : Int) (many : Int) (a2 : Addr) (w : World) (K : Value → World → Prop) : code_runs_1.W fromx many a2 w K = fnW Tryd.prog Tryd.f59 (.named .auto) [.int .i64 fromx, .int .i64 many, .pointer (some a2)] w K := by kernel_rfl
theorem code_runs_1.calls (ok : Okay Tryd.prog) {fromx : Int} {many : Int} {a2 : Addr} {w : World} {K : Value → World → Prop} (h : code_runs_1.W fromx many a2 w K) : CallsV Tryd.prog 59 #[.int .i64 fromx, .int .i64 many, .pointer (some a2)] w K :=
  fnW_calls ok Tryd.func59 (an := (.named .auto)) (args := [.int .i64 fromx, .int .i64 many, .pointer (some a2)]) (by rw [← code_runs_1.eq]; exact h)
noncomputable def code_Func.W : Int → World → (Value → World → Prop) → Prop := fun (d : Int) (w : Go.World) (K : Go.Value → Go.World → Prop) => Go.Sx.CallsV Go.Proofs.Tryd.prog (26 : Nat)
 #[Go.Value.string (ByteArray.mk #[(108 : UInt8), (101 : UInt8), (110 : UInt8), (103 : UInt8), (116 : UInt8), (104 : UInt8), (32 : UInt8), (117 : UInt8), (112 : UInt8), (112 : UInt8), (101 : UInt8),
 (114 : UInt8), (32 : UInt8), (108 : UInt8), (111 : UInt8), (119 : UInt8), (101 : UInt8), (114 : UInt8), (32 : UInt8), (97 : UInt8), (98 : UInt8), (115 : UInt8), (32 : UInt8), (116 : UInt8), (121 :
 UInt8), (112 : UInt8), (101 : UInt8), (111 : UInt8), (102 : UInt8), (32 : UInt8), (104 : UInt8), (101 : UInt8), (120 : UInt8), (32 : UInt8), (105 : UInt8), (102 : UInt8), (110 : UInt8), (117 : UInt8),
 (108 : UInt8), (108 : UInt8), (32 : UInt8), (105 : UInt8), (110 : UInt8), (115 : UInt8), (116 : UInt8), (114 : UInt8), (32 : UInt8), (115 : UInt8), (117 : UInt8), (98 : UInt8), (115 : UInt8), (116 :
 UInt8), (114 : UInt8), (32 : UInt8), (99 : UInt8), (111 : UInt8), (97 : UInt8), (108 : UInt8), (101 : UInt8), (115 : UInt8), (99 : UInt8), (101 : UInt8)]), Go.Value.int Go.IntKind.i64 d] w fun (v :
 Go.Value) (w' : Go.World) => ∃ (x : ByteArray), ∃ (x_1 : Bool), v = Go.Value.tuple #[Go.Value.string x, Go.Value.bool x_1] ∧ K (Go.Value.tuple #[Go.Value.string x, Go.Value.bool x_1]) w'
theorem code_Func.eq (d : Int) (w : World) (K : Value → World → Prop) : code_Func.W d w K = fnW Tryd.prog Tryd.f60 (.named .auto) [.int .i64 d] w K := by kernel_rfl
theorem code_Func.calls (ok : Okay Tryd.prog) {d : Int} {w : World} {K : Value → World → Prop} (h : code_Func.W d w K) : CallsV Tryd.prog 60 #[.int .i64 d] w K :=
  fnW_calls ok Tryd.func60 (an := (.named .auto)) (args := [.int .i64 d]) (by rw [← code_Func.eq]; exact h)
noncomputable def code_named.W : ByteArray → Int → World → (Value → World → Prop) → Prop := fun (words : ByteArray) (d : Int) (w : Go.World) (K : Go.Value → Go.World → Prop) => Go.Sx.CallsV
 Go.Proofs.Tryd.prog (12 : Nat) #[Go.Value.string words] w fun (v : Go.Value) (w' : Go.World) => ∃ (x : Option Go.Addr), ∃ (x_1 : Nat), ∃ (x_2 : Nat), v = Go.Value.slice x x_1 x_2 ∧ bif Decidable.decide
 (d < (0 : Int)) then K (Go.Value.tuple #[Go.Value.string (ByteArray.mk #[]), Go.Value.bool Bool.false]) w' else bif Decidable.decide ((↑x_1 : Int) ≤ d) then K (Go.Value.tuple #[Go.Value.string
 (ByteArray.mk #[]), Go.Value.bool Bool.false]) w' else ∃ (ad : Go.Addr), x = Option.some ad ∧ ((0 : Int) ≤ d ∧ d < (↑x_1 : Int)) ∧ ∃ (x : ByteArray), Go.World.cell? w' (Go.Addr.add ad (Int.toNat d * (1
 : Nat))) = Option.some (Go.Value.string x) ∧ K (Go.Value.tuple #[Go.Value.string x, Go.Value.bool Bool.true]) w'
theorem code_named.eq (words : ByteArray) (d : Int) (w : World) (K : Value → World → Prop) : code_named.W words d w K = fnW Tryd.prog Tryd.f26 (.named .auto) [.string words, .int .i64 d] w K := by kernel_rfl
theorem code_named.calls (ok : Okay Tryd.prog) {words : ByteArray} {d : Int} {w : World} {K : Value → World → Prop} (h : code_named.W words d w K) : CallsV Tryd.prog 26 #[.string words, .int .i64 d] w K :=
  fnW_calls ok Tryd.func26 (an := (.named .auto)) (args := [.string words, .int .i64 d]) (by rw [← code_named.eq]; exact h)
noncomputable def value_Known.W : ByteArray → Int → World → (Value → World → Prop) → Prop := fun (name : ByteArray) (args : Int) (w : Go.World) (K : Go.Value → Go.World → Prop) => ∃ (J : Bool →
 Go.World → Prop), (∀ (x : Bool) (w : Go.World), J x w → bif x then K (Go.Value.bool (Decidable.decide (args = (1 : Int)))) w else ∃ (J : Bool → Go.World → Prop), (∀ (x : Bool) (w : Go.World), J x w →
 bif x then K (Go.Value.bool (Decidable.decide (args = (2 : Int)))) w else bif ByteArray.toList name == ByteArray.toList (ByteArray.mk #[(115 : UInt8), (117 : UInt8), (98 : UInt8), (115 : UInt8), (116 :
 UInt8), (114 : UInt8)]) then bif Decidable.decide (args = (2 : Int)) then K (Go.Value.bool Bool.true) w else K (Go.Value.bool (Decidable.decide (args = (3 : Int)))) w else bif ByteArray.toList name ==
 ByteArray.toList (ByteArray.mk #[(99 : UInt8), (111 : UInt8), (97 : UInt8), (108 : UInt8), (101 : UInt8), (115 : UInt8), (99 : UInt8), (101 : UInt8)]) then bif Decidable.decide ((2 : Int) ≤ args) then
 K (Go.Value.bool (Decidable.decide (args ≤ (100 : Int)))) w else K (Go.Value.bool Bool.false) w else K (Go.Value.bool Bool.false) w) ∧ bif ByteArray.toList name == ByteArray.toList (ByteArray.mk #[(105
 : UInt8), (102 : UInt8), (110 : UInt8), (117 : UInt8), (108 : UInt8), (108 : UInt8)]) then J (ByteArray.toList name == ByteArray.toList (ByteArray.mk #[(105 : UInt8), (102 : UInt8), (110 : UInt8), (117
 : UInt8), (108 : UInt8), (108 : UInt8)])) w else J (ByteArray.toList name == ByteArray.toList (ByteArray.mk #[(105 : UInt8), (110 : UInt8), (115 : UInt8), (116 : UInt8), (114 : UInt8)])) w) ∧ bif
 ByteArray.toList name == ByteArray.toList (ByteArray.mk #[(108 : UInt8), (101 : UInt8), (110 : UInt8), (103 : UInt8), (116 : UInt8), (104 : UInt8)]) then J (ByteArray.toList name == ByteArray.toList
 (ByteArray.mk #[(108 : UInt8), (101 : UInt8), (110 : UInt8), (103 : UInt8), (116 : UInt8), (104 : UInt8)])) w else bif ByteArray.toList name == ByteArray.toList (ByteArray.mk #[(117 : UInt8), (112 :
 UInt8), (112 : UInt8), (101 : UInt8), (114 : UInt8)]) then J (ByteArray.toList name == ByteArray.toList (ByteArray.mk #[(117 : UInt8), (112 : UInt8), (112 : UInt8), (101 : UInt8), (114 : UInt8)])) w
 else bif ByteArray.toList name == ByteArray.toList (ByteArray.mk #[(108 : UInt8), (111 : UInt8), (119 : UInt8), (101 : UInt8), (114 : UInt8)]) then J (ByteArray.toList name == ByteArray.toList
 (ByteArray.mk #[(108 : UInt8), (111 : UInt8), (119 : UInt8), (101 : UInt8), (114 : UInt8)])) w else bif ByteArray.toList name == ByteArray.toList (ByteArray.mk #[(97 : UInt8), (98 : UInt8), (115 :
 UInt8)]) then J (ByteArray.toList name == ByteArray.toList (ByteArray.mk #[(97 : UInt8), (98 : UInt8), (115 : UInt8)])) w else bif ByteArray.toList name == ByteArray.toList (ByteArray.mk #[(116 :
 UInt8), (121 : UInt8), (112 : UInt8), (101 : UInt8), (111 : UInt8), (102 : UInt8)]) then J (ByteArray.toList name == ByteArray.toList (ByteArray.mk #[(116 : UInt8), (121 : UInt8), (112 : UInt8), (101 :
 UInt8), (111 : UInt8), (102 : UInt8)])) w else J (ByteArray.toList name == ByteArray.toList (ByteArray.mk #[(104 : UInt8), (101 : UInt8), (120 : UInt8)])) w
theorem value_Known.eq (name : ByteArray) (args : Int) (w : World) (K : Value → World → Prop) : value_Known.W name args w K = fnW Tryd.prog Tryd.f61 (.named (.seq .auto (.seq (.seq .auto (.block (.join [(6, .one .bool)] .auto (.cond .auto (.join [(15, .one .bool)] .auto .auto))))) .auto))) [.string name, .int .i64 args] w K := by kernel_rfl
theorem value_Known.calls (ok : Okay Tryd.prog) {name : ByteArray} {args : Int} {w : World} {K : Value → World → Prop} (h : value_Known.W name args w K) : CallsV Tryd.prog 61 #[.string name, .int .i64 args] w K :=
  fnW_calls ok Tryd.func61 (an := (.named (.seq .auto (.seq (.seq .auto (.block (.join [(6, .one .bool)] .auto (.cond .auto (.join [(15, .one .bool)] .auto .auto))))) .auto)))) (args := [.string name, .int .i64 args]) (by rw [← value_Known.eq]; exact h)
noncomputable def value_Right.W : Int → Int → ByteArray → World → (Value → World → Prop) → Prop := fun (v0 v1 : Int) (v2 : ByteArray) (w : Go.World) (K : Go.Value → Go.World → Prop) => ∀ (g : Nat) (w'
 : Go.World), Go.Sx.Fresh w g w' [Go.Value.int Go.IntKind.u8 v0, Go.Value.int Go.IntKind.i64 v1, Go.Value.string v2] (51 : Nat) → ∃ (x : Int), Go.World.cell? w' (Go.Addr.add (Go.Addr.mk g (0 : Nat)
 Option.none) (0 : Nat)) = Option.some (Go.Value.int Go.IntKind.u8 x) ∧ bif Decidable.decide (x = (0 : Int)) then ∃ (x : Int), Go.World.cell? w' (Go.Addr.add (Go.Addr.mk g (0 : Nat) Option.none) (1 :
 Nat)) = Option.some (Go.Value.int Go.IntKind.i64 x) ∧ bif Decidable.decide (x = (0 : Int)) then ∃ (x : ByteArray), Go.World.cell? w' (Go.Addr.add (Go.Addr.mk g (0 : Nat) Option.none) (2 : Nat)) =
 Option.some (Go.Value.string x) ∧ K (Go.Value.bool (ByteArray.toList x == ByteArray.toList (ByteArray.mk #[]))) w' else K (Go.Value.bool Bool.false) w' else bif Decidable.decide (x = (1 : Int)) then ∃
 (x : ByteArray), Go.World.cell? w' (Go.Addr.add (Go.Addr.mk g (0 : Nat) Option.none) (2 : Nat)) = Option.some (Go.Value.string x) ∧ K (Go.Value.bool (ByteArray.toList x == ByteArray.toList
 (ByteArray.mk #[]))) w' else bif Decidable.decide (x = (2 : Int)) then bif Decidable.decide (x = (2 : Int)) then ∃ (x : Int), Go.World.cell? w' (Go.Addr.add (Go.Addr.mk g (0 : Nat) Option.none) (1 :
 Nat)) = Option.some (Go.Value.int Go.IntKind.i64 x) ∧ bif Decidable.decide (x = (0 : Int)) then ∃ (x : ByteArray), Go.World.cell? w' (Go.Addr.add (Go.Addr.mk g (0 : Nat) Option.none) (2 : Nat)) =
 Option.some (Go.Value.string x) ∧ K (Go.Value.bool (Decidable.decide ((↑(ByteArray.size x) : Int) ≤ (65536 : Int)))) w' else K (Go.Value.bool Bool.false) w' else K (Go.Value.bool Bool.false) w' else
 bif Decidable.decide (x = (3 : Int)) then ∃ (x : Int), Go.World.cell? w' (Go.Addr.add (Go.Addr.mk g (0 : Nat) Option.none) (1 : Nat)) = Option.some (Go.Value.int Go.IntKind.i64 x) ∧ bif
 Decidable.decide (x = (0 : Int)) then ∃ (x : ByteArray), Go.World.cell? w' (Go.Addr.add (Go.Addr.mk g (0 : Nat) Option.none) (2 : Nat)) = Option.some (Go.Value.string x) ∧ K (Go.Value.bool
 (Decidable.decide ((↑(ByteArray.size x) : Int) ≤ (65536 : Int)))) w' else K (Go.Value.bool Bool.false) w' else K (Go.Value.bool Bool.false) w'
theorem value_Right.eq (v0 : Int) (v1 : Int) (v2 : ByteArray) (w : World) (K : Value → World → Prop) : value_Right.W v0 v1 v2 w K = fnW Tryd.prog Tryd.f37 (.named .auto) [.agg #[.int .u8 v0, .int .i64 v1, .string v2]] w K := by kernel_rfl
theorem value_Right.calls (ok : Okay Tryd.prog) {v0 : Int} {v1 : Int} {v2 : ByteArray} {w : World} {K : Value → World → Prop} (h : value_Right.W v0 v1 v2 w K) : CallsV Tryd.prog 37 #[.agg #[.int .u8 v0, .int .i64 v1, .string v2]] w K :=
  fnW_calls ok Tryd.func37 (an := (.named .auto)) (args := [.agg #[.int .u8 v0, .int .i64 v1, .string v2]]) (by rw [← value_Right.eq]; exact h)
noncomputable def agg_New.W : ByteArray → Bool → World → (Value → World → Prop) → Prop := fun (name : ByteArray) (distinct : Bool) (w : Go.World) (K : Go.Value → Go.World → Prop) => Go.Sx.CallsV
 Go.Proofs.Tryd.prog (71 : Nat) #[Go.Value.string name] w fun (v : Go.Value) (w' : Go.World) => ∃ (x : Bool), v = Go.Value.bool x ∧ bif !x then K (Go.Value.tuple #[Go.Value.pointer Option.none,
 Go.Value.int Go.IntKind.i64 (21 : Int)]) w' else bif distinct then bif ByteArray.toList name == ByteArray.toList (ByteArray.mk #[(99 : UInt8), (111 : UInt8), (117 : UInt8), (110 : UInt8), (116 :
 UInt8), (42 : UInt8)]) then K (Go.Value.tuple #[Go.Value.pointer Option.none, Go.Value.int Go.IntKind.i64 (2 : Int)]) w' else ∀ (g : Nat) (w'_1 : Go.World), Go.Sx.Fresh w' g w'_1 [Go.Value.string name,
 Go.Value.bool distinct, Go.Value.int Go.IntKind.i64 (0 : Int), Go.Value.int Go.IntKind.u64 (0 : Int), Go.Value.int Go.IntKind.u64 (0 : Int), Go.Value.int Go.IntKind.u8 (0 : Int), Go.Value.int
 Go.IntKind.i64 (0 : Int), Go.Value.string (ByteArray.mk #[]), Go.Value.slice Option.none (0 : Nat) (0 : Nat), Go.Value.map Option.none] (117 : Nat) → Go.Sx.CallsV Go.Proofs.Tryd.prog (72 : Nat)
 #[Go.Value.pointer (Option.some (Go.Addr.mk g (0 : Nat) Option.none))] w'_1 fun (v : Go.Value) (w' : Go.World) => v = Go.Value.tuple #[] ∧ K (Go.Value.tuple #[Go.Value.pointer (Option.some (Go.Addr.mk
 g (0 : Nat) Option.none)), Go.Value.int Go.IntKind.i64 (0 : Int)]) w' else ∀ (g : Nat) (w'_1 : Go.World), Go.Sx.Fresh w' g w'_1 [Go.Value.string name, Go.Value.bool distinct, Go.Value.int
 Go.IntKind.i64 (0 : Int), Go.Value.int Go.IntKind.u64 (0 : Int), Go.Value.int Go.IntKind.u64 (0 : Int), Go.Value.int Go.IntKind.u8 (0 : Int), Go.Value.int Go.IntKind.i64 (0 : Int), Go.Value.string
 (ByteArray.mk #[]), Go.Value.slice Option.none (0 : Nat) (0 : Nat), Go.Value.map Option.none] (117 : Nat) → Go.Sx.CallsV Go.Proofs.Tryd.prog (72 : Nat) #[Go.Value.pointer (Option.some (Go.Addr.mk g (0
 : Nat) Option.none))] w'_1 fun (v : Go.Value) (w' : Go.World) => v = Go.Value.tuple #[] ∧ K (Go.Value.tuple #[Go.Value.pointer (Option.some (Go.Addr.mk g (0 : Nat) Option.none)), Go.Value.int
 Go.IntKind.i64 (0 : Int)]) w'
theorem agg_New.eq (name : ByteArray) (distinct : Bool) (w : World) (K : Value → World → Prop) : agg_New.W name distinct w K = fnW Tryd.prog Tryd.f41 (.named .auto) [.string name, .bool distinct] w K := by kernel_rfl
theorem agg_New.calls (ok : Okay Tryd.prog) {name : ByteArray} {distinct : Bool} {w : World} {K : Value → World → Prop} (h : agg_New.W name distinct w K) : CallsV Tryd.prog 41 #[.string name, .bool distinct] w K :=
  fnW_calls ok Tryd.func41 (an := (.named .auto)) (args := [.string name, .bool distinct]) (by rw [← agg_New.eq]; exact h)
noncomputable def agg_Known.W : ByteArray → World → (Value → World → Prop) → Prop := fun (name : ByteArray) (w : Go.World) (K : Go.Value → Go.World → Prop) => bif ByteArray.toList name ==
 ByteArray.toList (ByteArray.mk #[(99 : UInt8), (111 : UInt8), (117 : UInt8), (110 : UInt8), (116 : UInt8)]) then bif ByteArray.toList name == ByteArray.toList (ByteArray.mk #[(99 : UInt8), (111 :
 UInt8), (117 : UInt8), (110 : UInt8), (116 : UInt8)]) then K (Go.Value.bool Bool.true) w else K (Go.Value.bool Bool.false) w else bif ByteArray.toList name == ByteArray.toList (ByteArray.mk #[(99 :
 UInt8), (111 : UInt8), (117 : UInt8), (110 : UInt8), (116 : UInt8), (42 : UInt8)]) then bif ByteArray.toList name == ByteArray.toList (ByteArray.mk #[(99 : UInt8), (111 : UInt8), (117 : UInt8), (110 :
 UInt8), (116 : UInt8), (42 : UInt8)]) then K (Go.Value.bool Bool.true) w else K (Go.Value.bool Bool.false) w else bif ByteArray.toList name == ByteArray.toList (ByteArray.mk #[(115 : UInt8), (117 :
 UInt8), (109 : UInt8)]) then bif ByteArray.toList name == ByteArray.toList (ByteArray.mk #[(115 : UInt8), (117 : UInt8), (109 : UInt8)]) then K (Go.Value.bool Bool.true) w else K (Go.Value.bool
 Bool.false) w else bif ByteArray.toList name == ByteArray.toList (ByteArray.mk #[(116 : UInt8), (111 : UInt8), (116 : UInt8), (97 : UInt8), (108 : UInt8)]) then bif ByteArray.toList name ==
 ByteArray.toList (ByteArray.mk #[(116 : UInt8), (111 : UInt8), (116 : UInt8), (97 : UInt8), (108 : UInt8)]) then K (Go.Value.bool Bool.true) w else K (Go.Value.bool Bool.false) w else bif
 ByteArray.toList name == ByteArray.toList (ByteArray.mk #[(109 : UInt8), (105 : UInt8), (110 : UInt8)]) then bif ByteArray.toList name == ByteArray.toList (ByteArray.mk #[(109 : UInt8), (105 : UInt8),
 (110 : UInt8)]) then K (Go.Value.bool Bool.true) w else K (Go.Value.bool Bool.false) w else bif ByteArray.toList name == ByteArray.toList (ByteArray.mk #[(109 : UInt8), (97 : UInt8), (120 : UInt8)])
 then bif ByteArray.toList name == ByteArray.toList (ByteArray.mk #[(109 : UInt8), (97 : UInt8), (120 : UInt8)]) then K (Go.Value.bool Bool.true) w else K (Go.Value.bool Bool.false) w else bif
 ByteArray.toList name == ByteArray.toList (ByteArray.mk #[(103 : UInt8), (114 : UInt8), (111 : UInt8), (117 : UInt8), (112 : UInt8), (95 : UInt8), (99 : UInt8), (111 : UInt8), (110 : UInt8), (99 :
 UInt8), (97 : UInt8), (116 : UInt8)]) then K (Go.Value.bool Bool.true) w else K (Go.Value.bool Bool.false) w
theorem agg_Known.eq (name : ByteArray) (w : World) (K : Value → World → Prop) : agg_Known.W name w K = fnW Tryd.prog Tryd.f71 (.named .auto) [.string name] w K := by kernel_rfl
theorem agg_Known.calls (ok : Okay Tryd.prog) {name : ByteArray} {w : World} {K : Value → World → Prop} (h : agg_Known.W name w K) : CallsV Tryd.prog 71 #[.string name] w K :=
  fnW_calls ok Tryd.func71 (an := (.named .auto)) (args := [.string name]) (by rw [← agg_Known.eq]; exact h)
noncomputable def agg_Acc_Reset.W : Option Addr → World → (Value → World → Prop) → Prop := fun (a : Option Go.Addr) (w : Go.World) (K : Go.Value → Go.World → Prop) => bif Option.isNone a then K
 (Go.Value.tuple #[]) w else ∃ (a_1 : Go.Addr), a = Option.some a_1 ∧ ∃ (x : ByteArray), Go.World.cell? w (Go.Addr.add a_1 (0 : Nat)) = Option.some (Go.Value.string x) ∧ bif ByteArray.toList x ==
 ByteArray.toList (ByteArray.mk #[]) then K (Go.Value.tuple #[]) w else ∃ (a_2 : Go.Addr), a = Option.some a_2 ∧ ∃ (S : Go.World → Prop), S (Go.World.drew w) ∧ ∃ (x : ByteArray), (∀ (u : Go.World), S u
 → Go.World.cell? u (Go.Addr.add a_2 (0 : Nat)) = Option.some (Go.Value.string x)) ∧ ∃ (a_3 : Go.Addr), a = Option.some a_3 ∧ ∃ (x_1 : Bool), (∀ (u : Go.World), S u → Go.World.cell? u (Go.Addr.add a_3
 (1 : Nat)) = Option.some (Go.Value.bool x_1)) ∧ ∃ (x_2 : Option Nat), ∃ (w' : Go.World), Go.Sx.RunsTo Go.Proofs.Tryd.prog (Go.Instr.makeMap (115 : Nat) Option.none) (Go.World.drew w) (Go.Value.map x_2)
 w' ∧ S w' ∧ ∃ (a_4 : Go.Addr), a = Option.some a_4 ∧ Go.Sx.stOK a_4 (0 : Nat) [Go.Value.string x, Go.Value.bool x_1, Go.Value.int Go.IntKind.i64 (0 : Int), Go.Value.int Go.IntKind.u64 (0 : Int),
 Go.Value.int Go.IntKind.u64 (0 : Int), Go.Value.int Go.IntKind.u8 (0 : Int), Go.Value.int Go.IntKind.i64 (0 : Int), Go.Value.string (ByteArray.mk #[]), Go.Value.slice Option.none (0 : Nat) (0 : Nat),
 Go.Value.map x_2] w' ∧ ∀ (w'_1 : Go.World), w'_1 = Go.Sx.setAll a_4 (0 : Nat) [Go.Value.string x, Go.Value.bool x_1, Go.Value.int Go.IntKind.i64 (0 : Int), Go.Value.int Go.IntKind.u64 (0 : Int),
 Go.Value.int Go.IntKind.u64 (0 : Int), Go.Value.int Go.IntKind.u8 (0 : Int), Go.Value.int Go.IntKind.i64 (0 : Int), Go.Value.string (ByteArray.mk #[]), Go.Value.slice Option.none (0 : Nat) (0 : Nat),
 Go.Value.map x_2] w' → K (Go.Value.tuple #[]) w'_1
theorem agg_Acc_Reset.eq (a : Option Addr) (w : World) (K : Value → World → Prop) : agg_Acc_Reset.W a w K = fnW Tryd.prog Tryd.f72 (.named .auto) [.pointer a] w K := by kernel_rfl
theorem agg_Acc_Reset.calls (ok : Okay Tryd.prog) {a : Option Addr} {w : World} {K : Value → World → Prop} (h : agg_Acc_Reset.W a w K) : CallsV Tryd.prog 72 #[.pointer a] w K :=
  fnW_calls ok Tryd.func72 (an := (.named .auto)) (args := [.pointer a]) (by rw [← agg_Acc_Reset.eq]; exact h)
end Go.Proofs.YtaifphjenebgoaaDoor
/- Contracts of the library at this program, laid by the kit. -/
namespace Go.Proofs
open Go.Shelf
def Tryd.lays171_ren : Go.Shelf.Ren := ⟨fun | 171 => 22 | 243 => 62 | 246 => 78 | 283 => 87 | 284 => 88 | 285 => 89 | 286 => 90 | 129 => 94 | 317 => 93 | 318 => 95 | 319 => 96 | 320 => 97 | 337 => 98 | 338 => 99 | n => n, fun | 3 => 3 | 9 => 9 | 2 => 2 | 4 => 4 | 171 => 139 | 0 => 0 | 53 => 108 | 37 => 45 | 5 => 5 | 173 => 142 | 212 => 149 | 51 => 103 | 20 => 20 | 213 => 150 | 46 => 137 | 232 => 154 | 233 => 155 | n => n, fun | 17 => 3 | 18 => 4 | 19 => 5 | n => n⟩
theorem Tryd.lays171 : Go.Proofs.Lays.n171 Tryd.prog Tryd.lays171_ren := {
  mixed := by kernel_rfl
  f129 := Tryd.func94.trans (congrArg some (by kernel_rfl))
  f171 := Tryd.func22.trans (congrArg some (by kernel_rfl))
  f243 := Tryd.func62.trans (congrArg some (by kernel_rfl))
  f246 := Tryd.func78.trans (congrArg some (by kernel_rfl))
  f283 := Tryd.func87.trans (congrArg some (by kernel_rfl))
  f284 := Tryd.func88.trans (congrArg some (by kernel_rfl))
  f285 := Tryd.func89.trans (congrArg some (by kernel_rfl))
  f286 := Tryd.func90.trans (congrArg some (by kernel_rfl))
  f317 := Tryd.func93.trans (congrArg some (by kernel_rfl))
  f318 := Tryd.func95.trans (congrArg some (by kernel_rfl))
  f319 := Tryd.func96.trans (congrArg some (by kernel_rfl))
  f320 := Tryd.func97.trans (congrArg some (by kernel_rfl))
  f337 := Tryd.func98.trans (congrArg some (by kernel_rfl))
  f338 := Tryd.func99.trans (congrArg some (by kernel_rfl))
  t0 := Tryd.underlying0
  a0 := Tryd.isAgg0
  z0 := Tryd.sizeOf0
  v0 := Tryd.zeroValue0
  t2 := Tryd.underlying2
  a2 := Tryd.isAgg2
  z2 := Tryd.sizeOf2
  v2 := Tryd.zeroValue2
  t3 := Tryd.underlying3
  a3 := Tryd.isAgg3
  z3 := Tryd.sizeOf3
  v3 := Tryd.zeroValue3
  t4 := Tryd.underlying4
  a4 := Tryd.isAgg4
  z4 := Tryd.sizeOf4
  v4 := Tryd.zeroValue4
  t5 := Tryd.underlying5
  a5 := Tryd.isAgg5
  z5 := Tryd.sizeOf5
  v5 := Tryd.zeroValue5
  t9 := Tryd.underlying9
  a9 := Tryd.isAgg9
  z9 := Tryd.sizeOf9
  v9 := Tryd.zeroValue9
  t20 := Tryd.underlying20
  a20 := Tryd.isAgg20
  z20 := Tryd.sizeOf20
  v20 := Tryd.zeroValue20
  t37 := Tryd.underlying45
  a37 := Tryd.isAgg45
  z37 := Tryd.sizeOf45
  v37 := Tryd.zeroValue45
  t46 := Tryd.underlying137
  a46 := Tryd.isAgg137
  z46 := Tryd.sizeOf137
  v46 := Tryd.zeroValue137
  t51 := Tryd.underlying103
  a51 := Tryd.isAgg103
  z51 := Tryd.sizeOf103
  v51 := Tryd.zeroValue103
  t53 := Tryd.underlying108
  a53 := Tryd.isAgg108
  z53 := Tryd.sizeOf108
  v53 := Tryd.zeroValue108
  t171 := Tryd.underlying139
  a171 := Tryd.isAgg139
  z171 := Tryd.sizeOf139
  v171 := Tryd.zeroValue139
  t173 := Tryd.underlying142
  a173 := Tryd.isAgg142
  z173 := Tryd.sizeOf142
  v173 := Tryd.zeroValue142
  t212 := Tryd.underlying149
  a212 := Tryd.isAgg149
  z212 := Tryd.sizeOf149
  v212 := Tryd.zeroValue149
  t213 := Tryd.underlying150
  a213 := Tryd.isAgg150
  z213 := Tryd.sizeOf150
  t232 := Tryd.underlying154
  a232 := Tryd.isAgg154
  z232 := Tryd.sizeOf154
  v232 := Tryd.zeroValue154
  t233 := Tryd.underlying155
  a233 := Tryd.isAgg155
  z233 := Tryd.sizeOf155
  v233 := Tryd.zeroValue155
  g17 := by kernel_rfl
  g18 := by kernel_rfl
  g19 := by kernel_rfl }
open Go.RowKit Go.Sort Go.Lib in
/-- THE ROAD WITHOUT THE TABLE: 0 <= i < 100: NO PREMISE ON THE WORLD, AND THE WORLD IS AS IT WAS: a row that keeps its argument in that range need list no table ('laid = []'). (LAID: no walk: one application.) -/
theorem Tryd.strconv_Itoa_small (i : Nat) (hi : i < 100) (w : World) :
    Calls Tryd.prog 22 #[.int .i64 i] w fun e w' => e = .returned (.string ⟨(Lib.decDigits i).toArray⟩) ∧ w' = w := Any.strconv_Itoa_small Tryd.lays171 i hi w
def Tryd.lays157_ren : Go.Shelf.Ren := ⟨fun | 157 => 12 | 229 => 23 | 199 => 24 | 261 => 63 | 311 => 79 | 312 => 80 | n => n, fun | 9 => 9 | 31 => 22 | 3 => 3 | 5 => 5 | 4 => 4 | 119 => 63 | 0 => 0 | 40 => 65 | 152 => 100 | 21 => 21 | 154 => 102 | 51 => 103 | 141 => 105 | 196 => 127 | 193 => 124 | 198 => 130 | 49 => 128 | 194 => 125 | 201 => 133 | 226 => 144 | 46 => 137 | 227 => 145 | n => n, fun | 0 => 0 | 6 => 1 | n => n⟩
theorem Tryd.lays157 : Go.Proofs.Lays.n157 Tryd.prog Tryd.lays157_ren := {
  mixed := by kernel_rfl
  f157 := Tryd.func12.trans (congrArg some (by kernel_rfl))
  f199 := Tryd.func24.trans (congrArg some (by kernel_rfl))
  f229 := Tryd.func23.trans (congrArg some (by kernel_rfl))
  f261 := Tryd.func63.trans (congrArg some (by kernel_rfl))
  f311 := Tryd.func79.trans (congrArg some (by kernel_rfl))
  f312 := Tryd.func80.trans (congrArg some (by kernel_rfl))
  t0 := Tryd.underlying0
  a0 := Tryd.isAgg0
  z0 := Tryd.sizeOf0
  v0 := Tryd.zeroValue0
  t3 := Tryd.underlying3
  a3 := Tryd.isAgg3
  z3 := Tryd.sizeOf3
  v3 := Tryd.zeroValue3
  t4 := Tryd.underlying4
  a4 := Tryd.isAgg4
  z4 := Tryd.sizeOf4
  v4 := Tryd.zeroValue4
  t5 := Tryd.underlying5
  a5 := Tryd.isAgg5
  z5 := Tryd.sizeOf5
  v5 := Tryd.zeroValue5
  t9 := Tryd.underlying9
  a9 := Tryd.isAgg9
  z9 := Tryd.sizeOf9
  v9 := Tryd.zeroValue9
  t21 := Tryd.underlying21
  a21 := Tryd.isAgg21
  z21 := Tryd.sizeOf21
  v21 := Tryd.zeroValue21
  t31 := Tryd.underlying22
  a31 := Tryd.isAgg22
  z31 := Tryd.sizeOf22
  v31 := Tryd.zeroValue22
  t40 := Tryd.underlying65
  a40 := Tryd.isAgg65
  z40 := Tryd.sizeOf65
  v40 := Tryd.zeroValue65
  t46 := Tryd.underlying137
  a46 := Tryd.isAgg137
  z46 := Tryd.sizeOf137
  v46 := Tryd.zeroValue137
  t49 := Tryd.underlying128
  a49 := Tryd.isAgg128
  z49 := Tryd.sizeOf128
  v49 := Tryd.zeroValue128
  t51 := Tryd.underlying103
  a51 := Tryd.isAgg103
  z51 := Tryd.sizeOf103
  v51 := Tryd.zeroValue103
  t119 := Tryd.underlying63
  a119 := Tryd.isAgg63
  z119 := Tryd.sizeOf63
  t141 := Tryd.underlying105
  a141 := Tryd.isAgg105
  z141 := Tryd.sizeOf105
  v141 := Tryd.zeroValue105
  t152 := Tryd.underlying100
  a152 := Tryd.isAgg100
  z152 := Tryd.sizeOf100
  v152 := Tryd.zeroValue100
  t154 := Tryd.underlying102
  a154 := Tryd.isAgg102
  z154 := Tryd.sizeOf102
  v154 := Tryd.zeroValue102
  t193 := Tryd.underlying124
  a193 := Tryd.isAgg124
  z193 := Tryd.sizeOf124
  v193 := Tryd.zeroValue124
  t194 := Tryd.underlying125
  a194 := Tryd.isAgg125
  z194 := Tryd.sizeOf125
  v194 := Tryd.zeroValue125
  t196 := Tryd.underlying127
  a196 := Tryd.isAgg127
  z196 := Tryd.sizeOf127
  v196 := Tryd.zeroValue127
  t198 := Tryd.underlying130
  a198 := Tryd.isAgg130
  z198 := Tryd.sizeOf130
  v198 := Tryd.zeroValue130
  t201 := Tryd.underlying133
  a201 := Tryd.isAgg133
  z201 := Tryd.sizeOf133
  v201 := Tryd.zeroValue133
  t226 := Tryd.underlying144
  a226 := Tryd.isAgg144
  z226 := Tryd.sizeOf144
  v226 := Tryd.zeroValue144
  t227 := Tryd.underlying145
  a227 := Tryd.isAgg145
  z227 := Tryd.sizeOf145
  v227 := Tryd.zeroValue145
  g0 := by kernel_rfl
  g6 := by kernel_rfl }
open Go.RowKit Go.Lib in
/-- strings.Fields, the table by 'Lib.TabIs' (as strings.TrimSpace's contract). 'hg': the table's number, by its name: at a dump 'by kernel_rfl'. (LAID: no walk: one application.) -/
theorem Tryd.strings_Fields (s : ByteArray) (w : World) (hs : s.size < 4294967281) (hascii : ∀ (j : Nat) b, s.data.toList[j]? = some b → b.toNat < 128) (htab : Lib.TabIs Tryd.prog w "strings.asciiSpace" .u8 Lib.asciiSpaceTab) :
    Calls Tryd.prog 12 #[.string s] w fun e w' =>
      e = .returned (.slice (some ⟨w.heap.size, 0, none⟩) (Lib.fields s.data.toList).length (Lib.fields s.data.toList).length) ∧ w' = w.alloc (.cells ((Lib.fields s.data.toList).map fun l => Value.string ⟨l.toArray⟩).toArray 9) := Any.strings_Fields Tryd.lays157 (by kernel_rfl) (by kernel_rfl) s w hs hascii htab
end Go.Proofs
/- Layer 3, plain: rows as bytes and keys. -/
set_option linter.unusedVariables false
set_option linter.unusedSimpArgs false
namespace R1
open Go.Sx

structure V where
  k : Int
  n : Int
  s : ByteArray

/-- a right value -/
def right (v : V) : Bool :=
  if v.k = 0 then decide (v.n = 0 ∧ v.s.size = 0) else if v.k = 1 then decide (v.s.size = 0) else if v.k = 2 ∨ v.k = 3 then decide (v.n = 0 ∧ v.s.size ≤ 65536) else false
/-- a value that memory can hold -/
def good (v : V) : Prop := (0 ≤ v.k ∧ v.k ≤ 255) ∧ (-9223372036854775808 ≤ v.n ∧ v.n ≤ 9223372036854775807) ∧ v.s.size ≤ Go.maxLen
/-- may it be a row? -/
def rightRow (l : List V) : Int := if 200 < l.length then 3 else if l.all right then 0 else 2

/-! ## numbers -/
def fits (n : Int) (k : Nat) : Bool := decide (-(2 ^ (8 * k - 1) : Nat) ≤ n ∧ n < (2 ^ (8 * k - 1) : Nat))
def wideFrom (n : Int) : Nat → Nat → Nat
  | 0, k => k
  | f + 1, k => if fits n k then k else wideFrom n f (k + 1)
/-- as few bytes as tell a number -/
def wide (n : Int) : Nat := wideFrom n 7 1
theorem wideFrom_le (n : Int) : ∀ f k, k ≤ wideFrom n f k ∧ wideFrom n f k ≤ f + k
  | 0, k => by simp [wideFrom]
  | f + 1, k => by
    have := wideFrom_le n f (k + 1)
    unfold wideFrom; split <;> omega
theorem wide_pos (n : Int) : 1 ≤ wide n := (wideFrom_le n 7 1).1
theorem wide_le (n : Int) : wide n ≤ 8 := (wideFrom_le n 7 1).2
/-- the last k bytes of a number, the highest first -/
def hi (m : Nat) : Nat → List UInt8
  | 0 => []
  | k + 1 => (m / 256 ^ k % 256).toUInt8 :: hi m k
theorem hi_length (m : Nat) : ∀ k, (hi m k).length = k
  | 0 => rfl
  | k + 1 => by simp [hi, hi_length m k]

/-! ## keys -/
def esc : List UInt8 → List UInt8
  | [] => []
  | c :: r => if c = 0 then 0 :: 255 :: esc r else c :: esc r
theorem esc_append : ∀ (a b : List UInt8), esc (a ++ b) = esc a ++ esc b
  | [], b => rfl
  | c :: a, b => by
    rw [List.cons_append, esc, esc, esc_append a b]
    split <;> rfl
theorem esc_length : ∀ (a : List UInt8), (esc a).length ≤ 2 * a.length
  | [] => by simp [esc]
  | c :: a => by have := esc_length a; unfold esc; split <;> simp <;> omega
def kpart (v : V) : List UInt8 :=
  if v.k = 0 then [1] else if v.k = 1 then 2 :: hi (v.n + 9223372036854775808).toNat 8 else (if v.k = 2 then 3 else 4) :: esc (sb v.s) ++ [0, 0]
theorem part_length (v : V) : (kpart v).length ≤ 9 + 2 * v.s.size := by
  unfold kpart
  have := esc_length (sb v.s)
  rw [sb_length] at this
  split
  · simp; omega
  · split
    · simp [hi_length]
    · simp; omega
theorem kpart_pos (v : V) : 0 < (kpart v).length := by
  unfold kpart; split
  · simp
  · split <;> simp
def tn (d : Bool) (l : List UInt8) : List UInt8 := if d then l.map (fun b => ~~~b) else l
theorem tn_length (d : Bool) (l : List UInt8) : (tn d l).length = l.length := by unfold tn; split <;> simp
def key : List V → List Bool → List UInt8
  | v :: vs, d :: ds => tn d (kpart v) ++ key vs ds
  | _, _ => []
def keyR (l : List V) (ds : List Bool) : List UInt8 × Int :=
  if rightRow l ≠ 0 then ([], rightRow l) else if ds.length ≠ l.length then ([], 2) else if 1048576 < (key l ds).length then ([], 3) else (key l ds, 0)
theorem key_append : ∀ (a b : List V) (d e : List Bool), a.length = d.length → key (a ++ b) (d ++ e) = key a d ++ key b e
  | [], b, [], e, _ => rfl
  | v :: a, b, x :: d, e, h => by
    show tn x (kpart v) ++ key (a ++ b) (d ++ e) = _
    rw [key_append a b d e (by simpa using h)]; simp [key]
  | [], _, _ :: _, _, h => by simp at h
  | _ :: _, _, [], _, h => by simp at h
theorem key_snoc (l : List V) (ds : List Bool) (i : Nat) (h : i < l.length) (h2 : i < ds.length) : key (l.take (i + 1)) (ds.take (i + 1)) = key (l.take i) (ds.take i) ++ tn (ds[i]) (kpart l[i]) := by
  rw [List.take_add_one, List.take_add_one, key_append _ _ _ _ (by simp; omega)]
  simp [h, h2, key]
theorem key_le : ∀ (l : List V) (ds : List Bool) (M : Nat), (∀ v ∈ l, v.s.size ≤ M) → (key l ds).length ≤ l.length * (9 + 2 * M)
  | [], _, M, _ => by simp [key]
  | v :: l, [], M, _ => by simp [key]
  | v :: l, d :: ds, M, h => by
    have h1 := key_le l ds M (fun v hv => h v (List.mem_cons.2 (.inr hv)))
    have h2 := part_length v
    have h3 := h v (List.mem_cons.2 (.inl rfl))
    simp only [key, List.length_append, tn_length, List.length_cons, Nat.add_mul, Nat.one_mul]
    omega

/-! ## rows -/
def sort (v : V) : Nat := if v.k = 1 then wide v.n else if v.k = 3 then 2 * v.s.size + 10 else if v.k = 2 then 2 * v.s.size + 11 else 0
def body (v : V) : List UInt8 := (if v.k = 1 then hi (v.n % 18446744073709551616).toNat (wide v.n) else []) ++ sb v.s
theorem right_size {v : V} (h : right v = true) : v.s.size ≤ 65536 := by
  unfold right at h
  split at h
  · have := of_decide_eq_true h; omega
  · split at h
    · have := of_decide_eq_true h; omega
    · split at h
      · have := of_decide_eq_true h; omega
      · cases h
end R1
/- What all texts of a seat stand on: the program is right; tests of strings; values. -/
set_option linter.unusedVariables false
set_option linter.unusedSimpArgs false
namespace Go.Proofs.YtaifphjenebgoaaDoor
open Go Go.Sx R1
theorem okay : Okay Tryd.prog := ⟨by kernel_rfl, by kernel_rfl⟩
theorem brS {l l' : List UInt8} {A B : Prop} (h1 : l = l' → A) (h2 : l ≠ l' → B) : cond (ByteArray.toList ⟨l.toArray⟩ == ByteArray.toList ⟨l'.toArray⟩) A B := by rw [eq_str]; exact brd h1 h2
theorem brnS {l l' : List UInt8} {A B : Prop} (h1 : l ≠ l' → A) (h2 : l = l' → B) : cond (!(ByteArray.toList ⟨l.toArray⟩ == ByteArray.toList ⟨l'.toArray⟩)) A B := by rw [eq_str]; exact brn h1 h2
/-- a value's cells -/
def vc (v : V) : List Value := [.int .u8 v.k, .int .i64 v.n, .string v.s]
def KV : Kd V := ⟨3, fun _ _ a cs => cs = vc a, fun h => by simp [h, vc], fun h _ => h⟩
theorem KV_pos : 0 < KV.size := by decide
theorem KV_one : ∀ (Ω : Nat → Prop) (w : World) a cs, KV.rep Ω w a cs → ∀ v ∈ cs, v.oneCell' = true := by
  intro Ω w a cs h v hv
  have h : cs = vc a := h
  subst h
  simp [vc] at hv
  rcases hv with rfl | rfl | rfl <;> rfl
def V0 : V := ⟨0, 0, ByteArray.empty⟩
end Go.Proofs.YtaifphjenebgoaaDoor
/- Layer 15, plain: programs; which may be. -/
set_option linter.unusedVariables false
set_option linter.unusedSimpArgs false
namespace K15
open Go.Sx R1
structure Cur where
  name : ByteArray
  ix : Bool
  wr : Bool
structure Srt where
  desc : List Bool
  cols : Int
  dist : Bool
structure Tot where
  fn : ByteArray
  dist : Bool
structure Ins where
  op : Int
  a : Int
  b : Int
  c : Int
  d : Int
structure Prog where
  ver : Int
  regs : Int
  binds : Int
  names : List ByteArray
  consts : List V
  curs : List Cur
  sorts : List Srt
  tots : List Tot
  code : List Ins
def C0 : Cur := ⟨ByteArray.empty, false, false⟩
def S0 : Srt := ⟨[], 0, false⟩
def T0 : Tot := ⟨ByteArray.empty, false⟩
def I0 : Ins := ⟨0, 0, 0, 0, 0⟩
def within (n low high : Int) : Bool := decide (low ≤ n) && decide (n ≤ high)
def longN (s : ByteArray) : Bool := decide (200 < s.size)
def wrongV (v : V) : Bool := !right v
def badCur (c : Cur) : Bool := decide (c.name.size = 0) || (decide (200 < c.name.size) || (c.ix && c.wr))
def badSrt (s : Srt) : Bool := decide (30 < s.desc.length) || !within s.cols 1 60
def knownT (n : List UInt8) : Bool := decide (n = [99, 111, 117, 110, 116] ∨ n = [99, 111, 117, 110, 116, 42] ∨ n = [115, 117, 109] ∨ n = [116, 111, 116, 97, 108] ∨ n = [109, 105, 110] ∨ n = [109, 97, 120] ∨ n = [103, 114, 111, 117, 112, 95, 99, 111, 110, 99, 97, 116])
def newT (n : List UInt8) (d : Bool) : Int := if knownT n then (if d && decide (n = [99, 111, 117, 110, 116, 42]) then 2 else 0) else 21
def badTot (t : Tot) : Bool := !decide (newT (sb t.fn) t.dist = 0)
def partsP (p : Prog) : Bool :=
  within p.ver 1 1099511627776 && (within p.regs 1 250 && (within p.binds 0 1000 && (decide (p.names.length ≤ 200) && (decide (p.consts.length ≤ 1000) && (decide (p.curs.length ≤ 12) && (decide (p.sorts.length ≤ 6) && (decide (p.tots.length ≤ 60) &&
  (!p.names.any longN && (!p.consts.any wrongV && (!p.curs.any badCur && (!p.sorts.any badSrt && !p.tots.any badTot)))))))))))
end K15
/- Layer 15, plain: what a letter says of a number. -/
set_option linter.unusedVariables false
set_option linter.unusedSimpArgs false
namespace K15
open Go.Sx R1
def below (n high : Int) : Bool := decide (0 ≤ n) && decide (n < high)
def curAt (p : Prog) (n : Int) : Cur := p.curs.getD n.toNat C0
def constAt (p : Prog) (n : Int) : V := p.consts.getD n.toNat ⟨0, 0, ByteArray.empty⟩
def fieldP (p : Prog) (t l n : Int) : Bool :=
  if l = 45 then decide (n = 0)
  else if l = 114 then below n p.regs
  else if l = 107 then below n p.consts.length
  else if l = 98 then below n p.binds
  else if l = 115 then below n p.sorts.length
  else if l = 116 then below n p.tots.length
  else if l = 99 then below n p.curs.length
  else if l = 50 then below n 15
  else if l = 49 then below n 2
  else if l = 102 then below n 10
  else if l = 120 then below n 60
  else if l = 106 then decide (t < n) && decide (n < p.code.length)
  else if l = 110 then decide (1 ≤ n) && decide (n ≤ t)
  else if l = 109 then decide (1 ≤ n) && decide (n ≤ p.regs)
  else if l = 105 then below n p.curs.length && (curAt p n).ix
  else if l = 108 then below n p.curs.length && !(curAt p n).ix
  else if l = 119 then below n p.curs.length && (!(curAt p n).ix && (curAt p n).wr)
  else if l = 113 then below n p.consts.length && decide ((constAt p n).k = 2)
  else false
/-- what each instruction has, a letter each -/
def shapes : List (Int × List UInt8) := [(1, [114, 107, 45, 45]), (2, [114, 98, 45, 45]), (3, [114, 114, 45, 45]), (4, [114, 114, 114, 50]), (5, [114, 114, 45, 49]), (6, [114, 114, 45, 49]), (7, [114, 114, 45, 49]), (8, [114, 114, 109, 102]), (9, [114, 45, 45, 49]), (10, [106, 45, 45, 45]), (11, [106, 114, 45, 45]), (12, [106, 114, 114, 109]), (13, [99, 106, 45, 45]), (14, [105, 106, 114, 109]), (15, [99, 110, 45, 45]), (16, [105, 106, 114, 109]), (17, [108, 106, 114, 45]), (18, [114, 99, 120, 45]), (19, [114, 99, 45, 45]), (20, [115, 114, 114, 45]), (21, [115, 106, 45, 45]), (22, [115, 110, 45, 45]), (23, [114, 115, 120, 45]), (24, [116, 45, 45, 45]), (25, [116, 114, 45, 45]), (26, [114, 116, 45, 45]), (27, [114, 45, 45, 45]), (28, [114, 119, 45, 45]), (29, [119, 114, 114, 45]), (30, [119, 114, 45, 45]), (31, [113, 45, 45, 45]), (32, [45, 45, 45, 45]), (33, [45, 45, 45, 45]), (34, [45, 45, 45, 45]), (35, [45, 45, 45, 45])]
def lookS : List (Int × List UInt8) → Int → List UInt8
  | [], _ => []
  | (k, l) :: r, o => if o = k then l else lookS r o
def shapeP (o : Int) : List UInt8 := lookS shapes o
/-- the letters -/
def letters : List Int := [45, 114, 107, 98, 115, 116, 99, 50, 49, 102, 120, 106, 110, 109, 105, 108, 119, 113]
def srtAt (p : Prog) (n : Int) : Srt := p.sorts.getD n.toNat S0
def fieldsL (p : Prog) (t : Int) (i : Ins) : List UInt8 → Bool
  | [x, y, z, u] => fieldP p t x.toNat i.a && (fieldP p t y.toNat i.b && (fieldP p t z.toNat i.c && fieldP p t u.toNat i.d))
  | _ => false
/-- are the numbers of an instruction what its letters say? -/
def fieldsP (p : Prog) (t : Int) (i : Ins) : Bool := fieldsL p t i (shapeP i.op)
def fnNames : List (List UInt8) := [[108, 101, 110, 103, 116, 104], [117, 112, 112, 101, 114], [108, 111, 119, 101, 114], [97, 98, 115], [116, 121, 112, 101, 111, 102], [104, 101, 120], [105, 102, 110, 117, 108, 108], [105, 110, 115, 116, 114], [115, 117, 98, 115, 116, 114], [99, 111, 97, 108, 101, 115, 99, 101]]
def knownF (n : List UInt8) (c : Int) : Bool :=
  if n = [108, 101, 110, 103, 116, 104] ∨ n = [117, 112, 112, 101, 114] ∨ n = [108, 111, 119, 101, 114] ∨ n = [97, 98, 115] ∨ n = [116, 121, 112, 101, 111, 102] ∨ n = [104, 101, 120] then decide (c = 1)
  else if n = [105, 102, 110, 117, 108, 108] ∨ n = [105, 110, 115, 116, 114] then decide (c = 2)
  else if n = [115, 117, 98, 115, 116, 114] then decide (c = 2) || decide (c = 3)
  else if n = [99, 111, 97, 108, 101, 115, 99, 101] then decide (2 ≤ c) && decide (c ≤ 100) else false
def fnAt (d : Int) : List UInt8 := if d < 0 ∨ (fnNames.length : Int) ≤ d then [] else fnNames.getD d.toNat []
def fitsP (p : Prog) (f m : Int) : Bool := decide (m ≤ p.regs - f)
def runsP (p : Prog) (t : Int) (i : Ins) : Bool :=
  if i.op = 8 then decide (i.c ≤ 100) && (fitsP p i.b i.c && knownF (fnAt i.d) i.c)
  else if i.op = 12 then fitsP p i.b i.d && fitsP p i.c i.d
  else if i.op = 14 ∨ i.op = 16 then fitsP p i.c i.d
  else if i.op = 18 then decide (i.c < 30)
  else if i.op = 23 then decide (i.c < (srtAt p i.b).cols)
  else if i.op = 20 then fitsP p i.b (srtAt p i.a).desc.length && fitsP p i.c (srtAt p i.a).cols
  else if i.op = 27 then fitsP p i.a p.names.length
  else if i.op = 31 ∨ i.op = 32 ∨ i.op = 33 ∨ i.op = 34 then decide (t = 0) && decide (p.code.length = 2)
  else true
/-- may an instruction stand at a place? -/
def okAt (p : Prog) (t : Nat) (i : Ins) : Bool := fieldsP p t i && runsP p t i
def okFrom (p : Prog) : Nat → List Ins → Bool
  | _, [] => true
  | t, i :: l => okAt p t i && okFrom p (t + 1) l
/-- may a program be? -/
def checkP (p : Prog) : Bool := partsP p && (decide (1 ≤ p.code.length) && (decide (p.code.length ≤ 4000) && (decide ((p.code.getD (p.code.length - 1) I0).op = 35) && okFrom p 0 p.code)))
end K15
/- Layer 15 (code): names of functions, which totals there are. -/
set_option linter.unusedVariables false
set_option linter.unusedSimpArgs false
namespace Go.Proofs.YtaifphjenebgoaaDoor
open Go Go.Sx K15
/-- the table of blanks lies in the world -/
def Tab (w : World) : Prop := Lib.TabIs Tryd.prog w "strings.asciiSpace" .u8 Lib.asciiSpaceTab
theorem Tab.ext {w w' : World} (h : Tab w) (e : Ext w w') : Tab w' := by
  unfold Tab Lib.TabIs World.var? at *
  cases hg : Tryd.prog.globalNamed "strings.asciiSpace" with
  | none => rw [hg] at h; cases h
  | some g =>
    rw [hg] at h
    simp only [Option.bind_some] at h ⊢
    cases hb : w.heap[g]? with
    | none => rw [hb] at h; cases h
    | some o =>
      rw [(e.block g (Array.getElem?_eq_some_iff.1 hb).1 (fun h => h)), hb]
      rw [hb] at h
      exact h
theorem part1 {α : Type} {l : List α} {i : Nat} {x : α} (h : l[i]? = some x) : (l.drop i).take 1 = [x] := by
  obtain ⟨hlt, rfl⟩ := List.getElem?_eq_some_iff.1 h
  rw [List.drop_eq_getElem_cons hlt]; rfl
theorem cntF_le : ∀ (l : List UInt8) (b : Bool), Lib.cntF b l ≤ l.length
  | [], _ => Nat.le_refl _
  | x :: l, b => by
    have := cntF_le l (Lib.isSp x)
    rw [Lib.cntF, List.length_cons]
    split <;> omega
theorem fields_le (l : List UInt8) : (Lib.fields l).length ≤ l.length := by
  have := Lib.fieldsGo_length l []
  have h2 := cntF_le l true
  show (Lib.fieldsGo [] l).length ≤ _
  rw [this]
  simp only [List.isEmpty_nil, if_true]
  omega
/-- a string of a list's bytes -/
def bs (l : List UInt8) : ByteArray := ⟨l.toArray⟩
theorem bs_sb (s : ByteArray) : bs (sb s) = s := rfl
theorem Fields_spec {w : World} (hT : Tab w) (s : ByteArray) (hs : s.size < 1000) (ha : ∀ b ∈ sb s, b.toNat < 128) :
    CallsV Tryd.prog 12 #[.string s] w fun r w' => ∃ A, r = .slice A (Lib.fields (sb s)).length (Lib.fields (sb s)).length ∧ Imm Kd.str NoB w' A ((Lib.fields (sb s)).map bs) ∧ Ext w w' := by
  refine Calls.mono (Tryd.strings_Fields s w (by omega) (fun j b hj => ha b (List.mem_of_getElem? hj)) hT) ?_
  rintro e w' ⟨he, rfl⟩
  refine ⟨_, he, _, rfl, ?_, Fr.alloc NoB w _⟩
  have hl : (Lib.fields (sb s)).length ≤ maxLen := by
    have := fields_le (sb s)
    rw [sb_length] at this
    simp only [maxLen]; omega
  have := (ownK_lit (K := Kd.str) (w := w) (cs := (Lib.fields s.data.toList).map fun l => Value.string ⟨l.toArray⟩) (e := 9) (l := (Lib.fields (sb s)).map bs) (by simp [Kd.str, sb]) (by simpa using hl) (fun i a hi => by
    rw [List.getElem?_map] at hi
    cases hq : (Lib.fields (sb s))[i]? with
    | none => rw [hq] at hi; cases hi
    | some x =>
      rw [hq] at hi
      cases hi
      show ((((Lib.fields (sb s)).map fun l => Value.string ⟨l.toArray⟩).drop (i * 1)).take 1) = [.string (bs x)]
      rw [Nat.mul_one, part1 (x := Value.string (bs x)) (by rw [List.getElem?_map, hq]; rfl)])).imm (by decide)
  exact this
/-- the d-th of some words -/
def nth (l : List (List UInt8)) (d : Int) : List UInt8 × Bool := if d < 0 ∨ (l.length : Int) ≤ d then ([], false) else (l.getD d.toNat [], true)
theorem named_spec {w : World} (hT : Tab w) (s : ByteArray) (hs : s.size < 1000) (ha : ∀ b ∈ sb s, b.toNat < 128) (d : Int) :
    CallsV Tryd.prog 26 #[.string s, .int .i64 d] w fun r w' => r = .tuple #[.string (bs (nth (Lib.fields (sb s)) d).1), .bool (nth (Lib.fields (sb s)) d).2] ∧ Ext w w' := by
  refine code_named.calls okay ?_
  unfold code_named.W nth
  refine (Fields_spec hT s hs ha).mono ?_
  rintro _ w1 ⟨A, rfl, hi, e⟩
  refine ⟨_, _, _, rfl, ?_⟩
  refine brd (fun h => ⟨by rw [if_pos (.inl h)]; rfl, e⟩) (fun h1 => brd (fun h => ⟨by rw [if_pos (.inr h)]; rfl, e⟩) (fun h2 => ?_))
  rw [if_neg (by omega)]
  have hlt : d.toNat < ((Lib.fields (sb s)).map bs).length := by rw [List.length_map]; omega
  obtain ⟨ad, hA, cs, hrep, hc⟩ := hi.get1 hlt
  have hrep : cs = [.string _] := hrep
  subst hrep
  have hlt2 : d.toNat < (Lib.fields (sb s)).length := by rwa [List.length_map] at hlt
  refine ⟨ad, hA, ⟨by omega, by omega⟩, _, hc 0 _ rfl, ?_, e⟩
  rw [List.getElem_map]
  simp [List.getD, hlt2]
def fWords : ByteArray := ByteArray.mk #[108, 101, 110, 103, 116, 104, 32, 117, 112, 112, 101, 114, 32, 108, 111, 119, 101, 114, 32, 97, 98, 115, 32, 116, 121, 112, 101, 111, 102, 32, 104, 101, 120, 32, 105, 102, 110, 117, 108, 108, 32, 105, 110, 115, 116, 114, 32, 115, 117, 98, 115, 116, 114, 32, 99, 111, 97, 108, 101, 115, 99, 101]
abbrev fNames : List (List UInt8) := K15.fnNames
theorem fFields : Lib.fields (sb fWords) = fNames := by decide +kernel
theorem fAscii : ∀ b ∈ sb fWords, b.toNat < 128 := by decide +kernel
theorem Func_spec {w : World} (hT : Tab w) (d : Int) :
    CallsV Tryd.prog 60 #[.int .i64 d] w fun r w' => r = .tuple #[.string (bs (nth fNames d).1), .bool (nth fNames d).2] ∧ Ext w w' := by
  refine code_Func.calls okay ?_
  unfold code_Func.W
  refine (named_spec hT fWords (by decide) fAscii d).mono ?_
  rw [fFields]
  rintro _ w1 ⟨rfl, e⟩
  exact ⟨_, _, rfl, rfl, e⟩
theorem Known_spec (w : World) (n : List UInt8) (c : Int) : CallsV Tryd.prog 61 #[.string (bs n), .int .i64 c] w fun r w' => r = .bool (knownF n c) ∧ w' = w := by
  refine value_Known.calls okay ?_
  unfold value_Known.W knownF
  refine ⟨fun x u => x = decide (n = [108, 101, 110, 103, 116, 104] ∨ n = [117, 112, 112, 101, 114] ∨ n = [108, 111, 119, 101, 114] ∨ n = [97, 98, 115] ∨ n = [116, 121, 112, 101, 111, 102] ∨ n = [104, 101, 120]) ∧ u = w, ?_, ?_⟩
  · rintro x u ⟨rfl, hu⟩
    obtain rfl : w = u := hu.symm
    by_cases h1 : n = [108, 101, 110, 103, 116, 104] ∨ n = [117, 112, 112, 101, 114] ∨ n = [108, 111, 119, 101, 114] ∨ n = [97, 98, 115] ∨ n = [116, 121, 112, 101, 111, 102] ∨ n = [104, 101, 120]
    · rw [decide_eq_true h1, cond_true, if_pos h1]; exact ⟨rfl, rfl⟩
    · rw [decide_eq_false h1, cond_false, if_neg h1]
      refine ⟨fun x u => x = decide (n = [105, 102, 110, 117, 108, 108] ∨ n = [105, 110, 115, 116, 114]) ∧ u = w, ?_, ?_⟩
      · rintro x u ⟨rfl, hu⟩
        obtain rfl : w = u := hu.symm
        by_cases h2 : n = [105, 102, 110, 117, 108, 108] ∨ n = [105, 110, 115, 116, 114]
        · rw [decide_eq_true h2, cond_true, if_pos h2]; exact ⟨rfl, rfl⟩
        · rw [decide_eq_false h2, cond_false, if_neg h2]
          refine brS (fun h => ?_) (fun h => ?_)
          · rw [if_pos h]
            exact brd (fun h3 => ⟨by rw [decide_eq_true h3]; rfl, rfl⟩) (fun h3 => ⟨by rw [decide_eq_false h3]; rfl, rfl⟩)
          · rw [if_neg h]
            refine brS (fun h4 => ?_) (fun h4 => ?_)
            · rw [if_pos h4]
              exact brd (fun h3 => ⟨by rw [decide_eq_true h3]; rfl, rfl⟩) (fun h3 => ⟨by rw [decide_eq_false h3]; rfl, rfl⟩)
            · rw [if_neg h4]; exact ⟨rfl, rfl⟩
      · refine brS (fun h => ⟨?_, rfl⟩) (fun h => ⟨?_, rfl⟩)
        · exact (eq_str n [105, 102, 110, 117, 108, 108]).trans (by rw [decide_eq_true h, decide_eq_true (.inl h)])
        · refine (eq_str n [105, 110, 115, 116, 114]).trans ?_
          exact decide_eq_decide.2 ⟨.inr, fun q => q.resolve_left h⟩
  · have fin : ∀ {x : Bool} {p : Prop} [Decidable p], x = decide p → (p ↔ (n = [108, 101, 110, 103, 116, 104] ∨ n = [117, 112, 112, 101, 114] ∨ n = [108, 111, 119, 101, 114] ∨ n = [97, 98, 115] ∨ n = [116, 121, 112, 101, 111, 102] ∨ n = [104, 101, 120])) → x = decide (n = [108, 101, 110, 103, 116, 104] ∨ n = [117, 112, 112, 101, 114] ∨ n = [108, 111, 119, 101, 114] ∨ n = [97, 98, 115] ∨ n = [116, 121, 112, 101, 111, 102] ∨ n = [104, 101, 120]) := fun h1 h2 => by rw [h1]; exact decide_eq_decide.2 h2
    refine brS (fun h => ⟨fin (eq_str n _) ⟨fun q => .inl q, fun _ => h⟩, rfl⟩) (fun h1 => ?_)
    refine brS (fun h => ⟨fin (eq_str n _) ⟨fun q => .inr (.inl q), fun _ => h⟩, rfl⟩) (fun h2 => ?_)
    refine brS (fun h => ⟨fin (eq_str n _) ⟨fun q => .inr (.inr (.inl q)), fun _ => h⟩, rfl⟩) (fun h3 => ?_)
    refine brS (fun h => ⟨fin (eq_str n _) ⟨fun q => .inr (.inr (.inr (.inl q))), fun _ => h⟩, rfl⟩) (fun h4 => ?_)
    refine brS (fun h => ⟨fin (eq_str n _) ⟨fun q => .inr (.inr (.inr (.inr (.inl q)))), fun _ => h⟩, rfl⟩) (fun h5 => ?_)
    refine ⟨fin (eq_str n _) ⟨fun q => .inr (.inr (.inr (.inr (.inr q)))), fun q => ?_⟩, rfl⟩
    rcases q with q | q | q | q | q | q
    · exact absurd q h1
    · exact absurd q h2
    · exact absurd q h3
    · exact absurd q h4
    · exact absurd q h5
    · exact q
end Go.Proofs.YtaifphjenebgoaaDoor
/- Layer 15 (code): what an instruction has. -/
set_option linter.unusedVariables false
set_option linter.unusedSimpArgs false
namespace Go.Proofs.YtaifphjenebgoaaDoor
open Go Go.Sx R1 K15
def shapeV (l : List UInt8) : Value := .agg #[.string (bs l)]
theorem look_get (o : Int) : ∀ l : List (Int × List UInt8), (getM (l.map fun p => (p.1, shapeV p.2)) o).getD (.agg #[.string (ByteArray.mk #[])]) = shapeV (lookS l o)
  | [] => rfl
  | (k, x) :: r => by
    rw [List.map_cons, getM, lookS]
    split
    · rfl
    · exact look_get o r
theorem upd_step {kt et t : TypeId} {d : TypeDesc} {q : IntKind} (F : KeyF Tryd.prog kt d (fun a : Int => Value.int q a)) (ht : und Tryd.prog t = some (.map kt et)) {w0 w : World} {b : Nat} {l : List (Int × Value)} {a : Int} {v : Value} {Kp : World → Prop}
    (hb : w0.heap.size ≤ b) (hm : MapK (fun a : Int => Value.int q a) w b l ∧ Ext w0 w) (h : ∀ w', MapK (fun a : Int => Value.int q a) w' b (setM l a v) ∧ Ext w0 w' → Kp w') :
    ∃ w', RunsTo Tryd.prog (Instr.mapUpdate t (.map (some b)) (.int q a) v) w () w' ∧ Kp w' := by
  obtain ⟨w', hr, hm', hf⟩ := hm.1.update F ht a v
  exact ⟨w', hr, h w' ⟨hm', hm.2.trans hf (fun _ _ h => h) (fun k hk e => by omega)⟩⟩
set_option maxRecDepth 10000 in
theorem shape_spec (w : World) (o : Int) : CallsV Tryd.prog 19 #[.int .u8 o] w fun r w' => r = .string (bs (shapeP o)) ∧ Ext w w' := by
  refine code_shape.calls okay ?_
  unfold code_shape.W
  have F : KeyF Tryd.prog 36 (.int .u8) (fun a : Int => Value.int .u8 a) := keyInt (by kernel_rfl)
  have hT : und Tryd.prog 93 = some (.map 36 92) := by kernel_rfl
  refine ⟨_, _, makeMap_run _ _, ?_⟩
  have hm : MapK (fun a : Int => Value.int .u8 a) (w.alloc (.map #[] 0)) w.heap.size [] ∧ Ext w (w.alloc (.map #[] 0)) := ⟨MapK.new _ _, Fr.alloc NoB _ _⟩
  generalize w.alloc (.map #[] 0) = w1 at *
  iterate 35 (refine upd_step F hT (Nat.le_refl _) hm ?_; clear hm; intro w1 hm)
  have hl : ∀ {x}, MapK (fun a : Int => Value.int .u8 a) w1 w.heap.size x ∧ Ext w w1 → x = shapes.map (fun p => (p.1, shapeV p.2)) → MapK (fun a : Int => Value.int .u8 a) w1 w.heap.size (shapes.map fun p => (p.1, shapeV p.2)) := fun h e => by rw [← e]; exact h.1
  have hM := hl hm (by kernel_rfl)
  obtain ⟨_, hr⟩ := hM.look F hT o (z := .agg #[.string (ByteArray.mk #[])]) (fun w => by kernel_rfl)
  rw [look_get] at hr
  exact ⟨_, _, hr, rfl, hm.2⟩
end Go.Proofs.YtaifphjenebgoaaDoor
