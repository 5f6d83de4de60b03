/- Part 4 of the texts of this claim: the engine, contracts, plain laws. -/
import Derived.Test.YtaifphjenebgoaaDoorProg
import Derived.Test.YtaifphjenebgoaaDoorZCShowsP1
import Derived.Test.YtaifphjenebgoaaDoorZCShowsP3
import Derived.Test.YtaifphjenebgoaaDoorZCShowsP2
import Derived.Lib.Fields
import Derived.Lib.ItoaNum
import Derived.Lib.ItoaLen
import Derived.Lib.IndexMore
import Derived.Lib.Strings
import Derived.Shelf.Strconv.Itoa0
import Derived.Shelf.Strconv.Itoa1
import Derived.Shelf.LaysM
import Derived.Shelf.Strconv.Itoa2
import Derived.Shelf.Strconv.Itoa3
import Derived.Shelf.Strings.Search1
import Derived.Shelf.Strings.Search2
import Derived.Shelf.Strings.Search3
import Derived.Shelf.Strings.Shaped
import Derived.Shelf.Strings.Prefix
import Derived.Shelf.Strings.Fields
import Derived.Shelf.Strings.SplitShaped
import Derived.Shelf.Unicode.Latin
import Derived.Shelf.Unicode.Is16White
import Derived.Shelf.Unicode.IsSpaceAny
import Derived.Shelf.Unicode.Is16WhiteD
import Derived.Shelf.Unicode.Is16Any
import Derived.Shelf.Unicode.Is32Any
import Derived.Shelf.Unicode.ExclAny
import Derived.Handed
import Derived.Shelf.Vars
/- The preconditions of Go functions, printed by a program of this workplace (nests.py); each is proved to be the engine's own. -/
set_option linter.unusedVariables false
set_option maxRecDepth 100000
namespace Go.Proofs.YtaifphjenebgoaaDoor
open Go Go.Sx
noncomputable def code_field_2.W : Value → Addr → Addr → Addr → World → (Value → World → Prop) → Prop := fun (okx : Go.Value) (a1 a2 a3 : Go.Addr) (w : Go.World) (K : Go.Value → Go.World → Prop) =>
 Go.Sx.cellsL okx = [okx] ∧ ∀ (g : Nat) (w' : Go.World), Go.Sx.Fresh w g w' [okx] (81 : Nat) → K (Go.Value.func (Go.Fn.func (50 : Nat)) #[] #[Go.Value.pointer (Option.some a1), Go.Value.pointer
 (Option.some a2), Go.Value.pointer (Option.some (Go.Addr.mk g (0 : Nat) Option.none)), Go.Value.pointer (Option.some a3)]) w'
theorem code_field_2.eq (okx : Value) (a1 : Addr) (a2 : Addr) (a3 : Addr) (w : World) (K : Value → World → Prop) : code_field_2.W okx a1 a2 a3 w K = fnW Tryd.prog Tryd.f49 (.named (.named .auto)) [okx, .pointer (some a1), .pointer (some a2), .pointer (some a3)] w K := by kernel_rfl
theorem code_field_2.calls (ok : Okay Tryd.prog) {okx : Value} {a1 : Addr} {a2 : Addr} {a3 : Addr} {w : World} {K : Value → World → Prop} (h : code_field_2.W okx a1 a2 a3 w K) : CallsV Tryd.prog 49 #[okx, .pointer (some a1), .pointer (some a2), .pointer (some a3)] w K :=
  fnW_calls ok Tryd.func49 (an := (.named (.named .auto))) (args := [okx, .pointer (some a1), .pointer (some a2), .pointer (some a3)]) (by rw [← code_field_2.eq]; exact h)
noncomputable def code_field_2_1.W : Addr → Addr → Addr → Addr → World → (Value → World → Prop) → Prop := fun (a0 a1 a2 a3 : Go.Addr) (w : Go.World) (K : Go.Value → Go.World → Prop) => ∃ (S : Go.World
 → Prop), S (Go.World.drew w) ∧ ∃ (x : Go.Value), (∀ (u : Go.World), S u → Go.World.cell? u a0 = Option.some x) ∧ ∃ (x_1 : Option Go.Addr), ∃ (x_2 : Nat), ∃ (x_3 : Nat), (∀ (u : Go.World), S u →
 Go.World.cell? u (Go.Addr.add a1 (5 : Nat)) = Option.some (Go.Value.slice x_1 x_2 x_3)) ∧ ∃ (fid : Nat), ∃ (first : Array Go.Value), ∃ (captured : Array Go.Value), x = Go.Value.func (Go.Fn.func fid)
 first captured ∧ Go.Sx.bodied Go.Proofs.Tryd.prog fid = Bool.true ∧ Go.Sx.CallsV Go.Proofs.Tryd.prog fid (List.toArray (Array.toList first ++ ([Go.Value.int Go.IntKind.i64 (↑x_2 : Int)] ++ Array.toList
 captured))) (Go.World.drew w) fun (r : Go.Value) (w' : Go.World) => ∃ (x : Go.Value), r = x ∧ S w' ∧ ∃ (fid : Nat), ∃ (first : Array Go.Value), ∃ (captured : Array Go.Value), x = Go.Value.func
 (Go.Fn.func fid) first captured ∧ Go.Sx.bodied Go.Proofs.Tryd.prog fid = Bool.true ∧ Go.Sx.CallsV Go.Proofs.Tryd.prog fid (List.toArray (Array.toList first ++ ([] ++ Array.toList captured))) w' fun (r
 : Go.Value) (w' : Go.World) => ∃ (x : Bool), r = Go.Value.bool x ∧ S w' ∧ bif x then ∃ (S_1 : Go.World → Prop), S_1 w' ∧ ∃ (x : Go.Value), (∀ (u : Go.World), S_1 u → Go.World.cell? u a2 = Option.some
 x) ∧ ∃ (x_4 : Option Go.Addr), ∃ (x_5 : Nat), ∃ (x_6 : Nat), (∀ (u : Go.World), S_1 u → Go.World.cell? u (Go.Addr.add a1 (5 : Nat)) = Option.some (Go.Value.slice x_4 x_5 x_6)) ∧ ∃ (x_7 : Int), (∀ (u :
 Go.World), S_1 u → Go.World.cell? u a3 = Option.some (Go.Value.int Go.IntKind.i64 x_7)) ∧ ∃ (ad : Go.Addr), x_4 = Option.some ad ∧ ((0 : Int) ≤ x_7 ∧ x_7 < (↑x_5 : Int)) ∧ ∃ (x_8 : ByteArray), (∀ (u :
 Go.World), S_1 u → Go.World.cell? u (Go.Addr.add (Go.Addr.add ad (Int.toNat x_7 * (3 : Nat))) (0 : Nat)) = Option.some (Go.Value.string x_8)) ∧ ∃ (x_9 : Bool), (∀ (u : Go.World), S_1 u → Go.World.cell?
 u (Go.Addr.add (Go.Addr.add ad (Int.toNat x_7 * (3 : Nat))) (1 : Nat)) = Option.some (Go.Value.bool x_9)) ∧ ∃ (x_10 : Bool), (∀ (u : Go.World), S_1 u → Go.World.cell? u (Go.Addr.add (Go.Addr.add ad
 (Int.toNat x_7 * (3 : Nat))) (2 : Nat)) = Option.some (Go.Value.bool x_10)) ∧ ∃ (fid : Nat), ∃ (first : Array Go.Value), ∃ (captured : Array Go.Value), x = Go.Value.func (Go.Fn.func fid) first captured
 ∧ Go.Sx.bodied Go.Proofs.Tryd.prog fid = Bool.true ∧ Go.Sx.CallsV Go.Proofs.Tryd.prog fid (List.toArray (Array.toList first ++ ([Go.Value.agg #[Go.Value.string x_8, Go.Value.bool x_9, Go.Value.bool
 x_10]] ++ Array.toList captured))) w' fun (r : Go.Value) (w' : Go.World) => ∃ (x : Bool), r = Go.Value.bool x ∧ S_1 w' ∧ S w' ∧ K (Go.Value.bool x) w' else K (Go.Value.bool Bool.false) w'
theorem code_field_2_1.eq (a0 : Addr) (a1 : Addr) (a2 : Addr) (a3 : Addr) (w : World) (K : Value → World → Prop) : code_field_2_1.W a0 a1 a2 a3 w K = fnW Tryd.prog Tryd.f50 (.named (.named .auto)) [.pointer (some a0), .pointer (some a1), .pointer (some a2), .pointer (some a3)] w K := by kernel_rfl
theorem code_field_2_1.calls (ok : Okay Tryd.prog) {a0 : Addr} {a1 : Addr} {a2 : Addr} {a3 : Addr} {w : World} {K : Value → World → Prop} (h : code_field_2_1.W a0 a1 a2 a3 w K) : CallsV Tryd.prog 50 #[.pointer (some a0), .pointer (some a1), .pointer (some a2), .pointer (some a3)] w K :=
  fnW_calls ok Tryd.func50 (an := (.named (.named .auto))) (args := [.pointer (some a0), .pointer (some a1), .pointer (some a2), .pointer (some a3)]) (by rw [← code_field_2_1.eq]; exact h)
noncomputable def code_field_10.W : Addr → Addr → Addr → World → (Value → World → Prop) → Prop := fun (a0 a1 a2 : Go.Addr) (w : Go.World) (K : Go.Value → Go.World → Prop) => ∃ (x : Go.Value),
 Go.World.cell? w a0 = Option.some x ∧ ∃ (x_1 : Option Go.Addr), ∃ (x_2 : Nat), ∃ (x_3 : Nat), Go.World.cell? w (Go.Addr.add a1 (4 : Nat)) = Option.some (Go.Value.slice x_1 x_2 x_3) ∧ ∃ (fid : Nat), ∃
 (first : Array Go.Value), ∃ (captured : Array Go.Value), x = Go.Value.func (Go.Fn.func fid) first captured ∧ Go.Sx.bodied Go.Proofs.Tryd.prog fid = Bool.true ∧ Go.Sx.CallsV Go.Proofs.Tryd.prog fid
 (List.toArray (Array.toList first ++ ([Go.Value.int Go.IntKind.i64 (↑x_2 : Int)] ++ Array.toList captured))) w fun (r : Go.Value) (w' : Go.World) => ∃ (x : Go.Value), r = x ∧ ∃ (fid : Nat), ∃ (first :
 Array Go.Value), ∃ (captured : Array Go.Value), x = Go.Value.func (Go.Fn.func fid) first captured ∧ Go.Sx.bodied Go.Proofs.Tryd.prog fid = Bool.true ∧ Go.Sx.CallsV Go.Proofs.Tryd.prog fid (List.toArray
 (Array.toList first ++ ([] ++ Array.toList captured))) w' fun (r : Go.Value) (w' : Go.World) => ∃ (x : Bool), r = Go.Value.bool x ∧ bif x then ∃ (x : Option Go.Addr), ∃ (x_4 : Nat), ∃ (x_5 : Nat),
 Go.World.cell? w' (Go.Addr.add a1 (4 : Nat)) = Option.some (Go.Value.slice x x_4 x_5) ∧ ∃ (x_6 : Int), Go.World.cell? w' a2 = Option.some (Go.Value.int Go.IntKind.i64 x_6) ∧ ∃ (ad : Go.Addr), x =
 Option.some ad ∧ ((0 : Int) ≤ x_6 ∧ x_6 < (↑x_4 : Int)) ∧ ∃ (x : Int), Go.World.cell? w' (Go.Addr.add (Go.Addr.add ad (Int.toNat x_6 * (3 : Nat))) (0 : Nat)) = Option.some (Go.Value.int Go.IntKind.u8
 x) ∧ K (Go.Value.bool (Decidable.decide (x = (2 : Int)))) w' else K (Go.Value.bool Bool.false) w'
theorem code_field_10.eq (a0 : Addr) (a1 : Addr) (a2 : Addr) (w : World) (K : Value → World → Prop) : code_field_10.W a0 a1 a2 w K = fnW Tryd.prog Tryd.f58 (.named (.named .auto)) [.pointer (some a0), .pointer (some a1), .pointer (some a2)] w K := by kernel_rfl
theorem code_field_10.calls (ok : Okay Tryd.prog) {a0 : Addr} {a1 : Addr} {a2 : Addr} {w : World} {K : Value → World → Prop} (h : code_field_10.W a0 a1 a2 w K) : CallsV Tryd.prog 58 #[.pointer (some a0), .pointer (some a1), .pointer (some a2)] w K :=
  fnW_calls ok Tryd.func58 (an := (.named (.named .auto))) (args := [.pointer (some a0), .pointer (some a1), .pointer (some a2)]) (by rw [← code_field_10.eq]; exact h)
noncomputable def code_field.W : Int → Int → Int → Option Addr → Nat → Nat → Option Addr → Nat → Nat → Option Addr → Nat → Nat → Option Addr → Nat → Nat → Option Addr → Nat → Nat → Option Addr → Nat →
 Nat → Int → Int → Int → World → (Value → World → Prop) → Prop := fun (p0 p1 p2 : Int) (p3_A : Option Go.Addr) (p3_n p3_c : Nat) (p4_A : Option Go.Addr) (p4_n p4_c : Nat) (p5_A : Option Go.Addr) (p5_n
 p5_c : Nat) (p6_A : Option Go.Addr) (p6_n p6_c : Nat) (p7_A : Option Go.Addr) (p7_n p7_c : Nat) (p8_A : Option Go.Addr) (p8_n p8_c : Nat) (atx letter n : Int) (w : Go.World) (K : Go.Value → Go.World →
 Prop) => ∀ (g : Nat) (w' : Go.World), Go.Sx.Fresh w g w' [Go.Value.int Go.IntKind.i64 p0, Go.Value.int Go.IntKind.i64 p1, Go.Value.int Go.IntKind.i64 p2, Go.Value.slice p3_A p3_n p3_c, Go.Value.slice
 p4_A p4_n p4_c, Go.Value.slice p5_A p5_n p5_c, Go.Value.slice p6_A p6_n p6_c, Go.Value.slice p7_A p7_n p7_c, Go.Value.slice p8_A p8_n p8_c] (29 : Nat) → ∀ (g_1 : Nat) (w'_1 : Go.World), Go.Sx.Fresh w'
 g_1 w'_1 [Go.Value.int Go.IntKind.i64 atx] (3 : Nat) → ∀ (g_2 : Nat) (w' : Go.World), Go.Sx.Fresh w'_1 g_2 w' [Go.Value.int Go.IntKind.i64 n] (3 : Nat) → ∀ (g_3 : Nat) (w'_2 : Go.World), Go.Sx.Fresh w'
 g_3 w'_2 [Go.Value.nilFunc] (94 : Nat) → Go.Sx.cellsL (Go.Value.func (Go.Fn.func (47 : Nat)) #[] #[Go.Value.pointer (Option.some (Go.Addr.mk g_2 (0 : Nat) Option.none))]) = [Go.Value.func (Go.Fn.func
 (47 : Nat)) #[] #[Go.Value.pointer (Option.some (Go.Addr.mk g_2 (0 : Nat) Option.none))]] ∧ Go.Value.oneCell' (Go.Value.func (Go.Fn.func (47 : Nat)) #[] #[Go.Value.pointer (Option.some (Go.Addr.mk g_2
 (0 : Nat) Option.none))]) = Bool.true ∧ Go.Sx.stOK (Go.Addr.mk g_3 (0 : Nat) Option.none) (0 : Nat) [Go.Value.func (Go.Fn.func (47 : Nat)) #[] #[Go.Value.pointer (Option.some (Go.Addr.mk g_2 (0 : Nat)
 Option.none))]] w'_2 ∧ ∀ (w' : Go.World), w' = Go.Sx.setAll (Go.Addr.mk g_3 (0 : Nat) Option.none) (0 : Nat) [Go.Value.func (Go.Fn.func (47 : Nat)) #[] #[Go.Value.pointer (Option.some (Go.Addr.mk g_2
 (0 : Nat) Option.none))]] w'_2 → ∃ (S : Go.World → Prop), S (Go.World.drew w') ∧ ∃ (x : Go.Value), (∀ (u : Go.World), S u → Go.World.cell? u (Go.Addr.mk g_3 (0 : Nat) Option.none) = Option.some x) ∧ ∃
 (x_1 : Int), (∀ (u : Go.World), S u → Go.World.cell? u (Go.Addr.add (Go.Addr.mk g (0 : Nat) Option.none) (1 : Nat)) = Option.some (Go.Value.int Go.IntKind.i64 x_1)) ∧ ∃ (x_2 : Go.Value), (∀ (u :
 Go.World), S u → Go.World.cell? u (Go.Addr.mk g_3 (0 : Nat) Option.none) = Option.some x_2) ∧ ∃ (x_3 : Option Go.Addr), ∃ (x_4 : Nat), ∃ (x_5 : Nat), (∀ (u : Go.World), S u → Go.World.cell? u
 (Go.Addr.add (Go.Addr.mk g (0 : Nat) Option.none) (4 : Nat)) = Option.some (Go.Value.slice x_3 x_4 x_5)) ∧ ∃ (x_6 : Go.Value), (∀ (u : Go.World), S u → Go.World.cell? u (Go.Addr.mk g_3 (0 : Nat)
 Option.none) = Option.some x_6) ∧ ∃ (x_7 : Int), (∀ (u : Go.World), S u → Go.World.cell? u (Go.Addr.add (Go.Addr.mk g (0 : Nat) Option.none) (2 : Nat)) = Option.some (Go.Value.int Go.IntKind.i64 x_7))
 ∧ ∃ (x_8 : Go.Value), (∀ (u : Go.World), S u → Go.World.cell? u (Go.Addr.mk g_3 (0 : Nat) Option.none) = Option.some x_8) ∧ ∃ (x_9 : Option Go.Addr), ∃ (x_10 : Nat), ∃ (x_11 : Nat), (∀ (u : Go.World),
 S u → Go.World.cell? u (Go.Addr.add (Go.Addr.mk g (0 : Nat) Option.none) (6 : Nat)) = Option.some (Go.Value.slice x_9 x_10 x_11)) ∧ ∃ (x_12 : Go.Value), (∀ (u : Go.World), S u → Go.World.cell? u
 (Go.Addr.mk g_3 (0 : Nat) Option.none) = Option.some x_12) ∧ ∃ (x_13 : Option Go.Addr), ∃ (x_14 : Nat), ∃ (x_15 : Nat), (∀ (u : Go.World), S u → Go.World.cell? u (Go.Addr.add (Go.Addr.mk g (0 : Nat)
 Option.none) (7 : Nat)) = Option.some (Go.Value.slice x_13 x_14 x_15)) ∧ ∃ (x_16 : Go.Value), (∀ (u : Go.World), S u → Go.World.cell? u (Go.Addr.mk g_3 (0 : Nat) Option.none) = Option.some x_16) ∧ ∃
 (x_17 : Option Go.Addr), ∃ (x_18 : Nat), ∃ (x_19 : Nat), (∀ (u : Go.World), S u → Go.World.cell? u (Go.Addr.add (Go.Addr.mk g (0 : Nat) Option.none) (5 : Nat)) = Option.some (Go.Value.slice x_17 x_18
 x_19)) ∧ ∃ (x_20 : Go.Value), (∀ (u : Go.World), S u → Go.World.cell? u (Go.Addr.mk g_3 (0 : Nat) Option.none) = Option.some x_20) ∧ ∃ (x_21 : Go.Value), (∀ (u : Go.World), S u → Go.World.cell? u
 (Go.Addr.mk g_3 (0 : Nat) Option.none) = Option.some x_21) ∧ ∃ (x_22 : Go.Value), (∀ (u : Go.World), S u → Go.World.cell? u (Go.Addr.mk g_3 (0 : Nat) Option.none) = Option.some x_22) ∧ ∃ (x_23 :
 Go.Value), (∀ (u : Go.World), S u → Go.World.cell? u (Go.Addr.mk g_3 (0 : Nat) Option.none) = Option.some x_23) ∧ ∃ (G : (Nat → Bool) → (Nat → Go.Value) → Go.World → Prop), (∀ (ν : Nat → Go.Value), G
 (fun (x : Nat) => Bool.false) ν (Go.World.drew w')) ∧ (∀ (D : Nat → Bool) (ν : Nat → Go.Value) (w : Go.World), G D ν w → S w) ∧ ((∀ (D : Nat → Bool) (ν : Nat → Go.Value) (w : Go.World), G D ν w → D (0
 : Nat) = Bool.false → ∃ (x : Option Nat), ∃ (w' : Go.World), Go.Sx.RunsTo Go.Proofs.Tryd.prog (Go.Instr.makeMap (96 : Nat) Option.none) w (Go.Value.map x) w' ∧ G (Go.Sx.setD D (0 : Nat)) (Go.Sx.setNuV
 ν (Option.some (14 : Nat)) (Go.Value.map x)) w') ∧ (∀ (D : Nat → Bool) (ν : Nat → Go.Value) (w : Go.World), G D ν w → D (2 : Nat) = Bool.false → D (0 : Nat) = Bool.true → ∃ (x : Option Nat), ν (14 :
 Nat) = Go.Value.map x ∧ ∃ (w' : Go.World), Go.Sx.RunsTo Go.Proofs.Tryd.prog (Go.Instr.mapUpdate (96 : Nat) (Go.Value.map x) (Go.Value.int Go.IntKind.u8 (45 : Int)) (Go.Value.func (Go.Fn.func (51 :
 Nat)) #[] #[Go.Value.pointer (Option.some (Go.Addr.mk g_2 (0 : Nat) Option.none))])) w () w' ∧ G (Go.Sx.setD D (2 : Nat)) (Go.Sx.setNuV ν Option.none Go.undef) w') ∧ (∀ (D : Nat → Bool) (ν : Nat →
 Go.Value) (w : Go.World), G D ν w → D (6 : Nat) = Bool.false → ∃ (fid : Nat), ∃ (first : Array Go.Value), ∃ (captured : Array Go.Value), x = Go.Value.func (Go.Fn.func fid) first captured ∧ Go.Sx.bodied
 Go.Proofs.Tryd.prog fid = Bool.true ∧ Go.Sx.CallsV Go.Proofs.Tryd.prog fid (List.toArray (Array.toList first ++ ([Go.Value.int Go.IntKind.i64 x_1] ++ Array.toList captured))) w fun (r : Go.Value) (w' :
 Go.World) => ∃ (x : Go.Value), r = x ∧ G (Go.Sx.setD D (6 : Nat)) (Go.Sx.setNuV ν (Option.some (19 : Nat)) x) w') ∧ (∀ (D : Nat → Bool) (ν : Nat → Go.Value) (w : Go.World), G D ν w → D (7 : Nat) =
 Bool.false → D (0 : Nat) = Bool.true → D (6 : Nat) = Bool.true → ∃ (x : Option Nat), ν (14 : Nat) = Go.Value.map x ∧ ∃ (w' : Go.World), Go.Sx.RunsTo Go.Proofs.Tryd.prog (Go.Instr.mapUpdate (96 : Nat)
 (Go.Value.map x) (Go.Value.int Go.IntKind.u8 (114 : Int)) (ν (19 : Nat))) w () w' ∧ G (Go.Sx.setD D (7 : Nat)) (Go.Sx.setNuV ν Option.none Go.undef) w') ∧ (∀ (D : Nat → Bool) (ν : Nat → Go.Value) (w :
 Go.World), G D ν w → D (12 : Nat) = Bool.false → D (6 : Nat) = Bool.true → ∃ (fid : Nat), ∃ (first : Array Go.Value), ∃ (captured : Array Go.Value), x_2 = Go.Value.func (Go.Fn.func fid) first captured
 ∧ Go.Sx.bodied Go.Proofs.Tryd.prog fid = Bool.true ∧ Go.Sx.CallsV Go.Proofs.Tryd.prog fid (List.toArray (Array.toList first ++ ([Go.Value.int Go.IntKind.i64 (↑x_4 : Int)] ++ Array.toList captured))) w
 fun (r : Go.Value) (w' : Go.World) => ∃ (x : Go.Value), r = x ∧ G (Go.Sx.setD D (12 : Nat)) (Go.Sx.setNuV ν (Option.some (24 : Nat)) x) w') ∧ (∀ (D : Nat → Bool) (ν : Nat → Go.Value) (w : Go.World), G
 D ν w → D (13 : Nat) = Bool.false → D (0 : Nat) = Bool.true → D (12 : Nat) = Bool.true → ∃ (x : Option Nat), ν (14 : Nat) = Go.Value.map x ∧ ∃ (w' : Go.World), Go.Sx.RunsTo Go.Proofs.Tryd.prog
 (Go.Instr.mapUpdate (96 : Nat) (Go.Value.map x) (Go.Value.int Go.IntKind.u8 (107 : Int)) (ν (24 : Nat))) w () w' ∧ G (Go.Sx.setD D (13 : Nat)) (Go.Sx.setNuV ν Option.none Go.undef) w') ∧ (∀ (D : Nat →
 Bool) (ν : Nat → Go.Value) (w : Go.World), G D ν w → D (17 : Nat) = Bool.false → D (12 : Nat) = Bool.true → ∃ (fid : Nat), ∃ (first : Array Go.Value), ∃ (captured : Array Go.Value), x_6 = Go.Value.func
 (Go.Fn.func fid) first captured ∧ Go.Sx.bodied Go.Proofs.Tryd.prog fid = Bool.true ∧ Go.Sx.CallsV Go.Proofs.Tryd.prog fid (List.toArray (Array.toList first ++ ([Go.Value.int Go.IntKind.i64 x_7] ++
 Array.toList captured))) w fun (r : Go.Value) (w' : Go.World) => ∃ (x : Go.Value), r = x ∧ G (Go.Sx.setD D (17 : Nat)) (Go.Sx.setNuV ν (Option.some (28 : Nat)) x) w') ∧ (∀ (D : Nat → Bool) (ν : Nat →
 Go.Value) (w : Go.World), G D ν w → D (18 : Nat) = Bool.false → D (0 : Nat) = Bool.true → D (17 : Nat) = Bool.true → ∃ (x : Option Nat), ν (14 : Nat) = Go.Value.map x ∧ ∃ (w' : Go.World), Go.Sx.RunsTo
 Go.Proofs.Tryd.prog (Go.Instr.mapUpdate (96 : Nat) (Go.Value.map x) (Go.Value.int Go.IntKind.u8 (98 : Int)) (ν (28 : Nat))) w () w' ∧ G (Go.Sx.setD D (18 : Nat)) (Go.Sx.setNuV ν Option.none Go.undef)
 w') ∧ (∀ (D : Nat → Bool) (ν : Nat → Go.Value) (w : Go.World), G D ν w → D (23 : Nat) = Bool.false → D (17 : Nat) = Bool.true → ∃ (fid : Nat), ∃ (first : Array Go.Value), ∃ (captured : Array Go.Value),
 x_8 = Go.Value.func (Go.Fn.func fid) first captured ∧ Go.Sx.bodied Go.Proofs.Tryd.prog fid = Bool.true ∧ Go.Sx.CallsV Go.Proofs.Tryd.prog fid (List.toArray (Array.toList first ++ ([Go.Value.int
 Go.IntKind.i64 (↑x_10 : Int)] ++ Array.toList captured))) w fun (r : Go.Value) (w' : Go.World) => ∃ (x : Go.Value), r = x ∧ G (Go.Sx.setD D (23 : Nat)) (Go.Sx.setNuV ν (Option.some (33 : Nat)) x) w') ∧
 (∀ (D : Nat → Bool) (ν : Nat → Go.Value) (w : Go.World), G D ν w → D (24 : Nat) = Bool.false → D (0 : Nat) = Bool.true → D (23 : Nat) = Bool.true → ∃ (x : Option Nat), ν (14 : Nat) = Go.Value.map x ∧ ∃
 (w' : Go.World), Go.Sx.RunsTo Go.Proofs.Tryd.prog (Go.Instr.mapUpdate (96 : Nat) (Go.Value.map x) (Go.Value.int Go.IntKind.u8 (115 : Int)) (ν (33 : Nat))) w () w' ∧ G (Go.Sx.setD D (24 : Nat))
 (Go.Sx.setNuV ν Option.none Go.undef) w') ∧ (∀ (D : Nat → Bool) (ν : Nat → Go.Value) (w : Go.World), G D ν w → D (29 : Nat) = Bool.false → D (23 : Nat) = Bool.true → ∃ (fid : Nat), ∃ (first : Array
 Go.Value), ∃ (captured : Array Go.Value), x_12 = Go.Value.func (Go.Fn.func fid) first captured ∧ Go.Sx.bodied Go.Proofs.Tryd.prog fid = Bool.true ∧ Go.Sx.CallsV Go.Proofs.Tryd.prog fid (List.toArray
 (Array.toList first ++ ([Go.Value.int Go.IntKind.i64 (↑x_14 : Int)] ++ Array.toList captured))) w fun (r : Go.Value) (w' : Go.World) => ∃ (x : Go.Value), r = x ∧ G (Go.Sx.setD D (29 : Nat))
 (Go.Sx.setNuV ν (Option.some (38 : Nat)) x) w') ∧ (∀ (D : Nat → Bool) (ν : Nat → Go.Value) (w : Go.World), G D ν w → D (30 : Nat) = Bool.false → D (0 : Nat) = Bool.true → D (29 : Nat) = Bool.true → ∃
 (x : Option Nat), ν (14 : Nat) = Go.Value.map x ∧ ∃ (w' : Go.World), Go.Sx.RunsTo Go.Proofs.Tryd.prog (Go.Instr.mapUpdate (96 : Nat) (Go.Value.map x) (Go.Value.int Go.IntKind.u8 (116 : Int)) (ν (38 :
 Nat))) w () w' ∧ G (Go.Sx.setD D (30 : Nat)) (Go.Sx.setNuV ν Option.none Go.undef) w') ∧ (∀ (D : Nat → Bool) (ν : Nat → Go.Value) (w : Go.World), G D ν w → D (35 : Nat) = Bool.false → D (29 : Nat) =
 Bool.true → ∃ (fid : Nat), ∃ (first : Array Go.Value), ∃ (captured : Array Go.Value), x_16 = Go.Value.func (Go.Fn.func fid) first captured ∧ Go.Sx.bodied Go.Proofs.Tryd.prog fid = Bool.true ∧
 Go.Sx.CallsV Go.Proofs.Tryd.prog fid (List.toArray (Array.toList first ++ ([Go.Value.int Go.IntKind.i64 (↑x_18 : Int)] ++ Array.toList captured))) w fun (r : Go.Value) (w' : Go.World) => ∃ (x :
 Go.Value), r = x ∧ G (Go.Sx.setD D (35 : Nat)) (Go.Sx.setNuV ν (Option.some (43 : Nat)) x) w') ∧ (∀ (D : Nat → Bool) (ν : Nat → Go.Value) (w : Go.World), G D ν w → D (36 : Nat) = Bool.false → D (0 :
 Nat) = Bool.true → D (35 : Nat) = Bool.true → ∃ (x : Option Nat), ν (14 : Nat) = Go.Value.map x ∧ ∃ (w' : Go.World), Go.Sx.RunsTo Go.Proofs.Tryd.prog (Go.Instr.mapUpdate (96 : Nat) (Go.Value.map x)
 (Go.Value.int Go.IntKind.u8 (99 : Int)) (ν (43 : Nat))) w () w' ∧ G (Go.Sx.setD D (36 : Nat)) (Go.Sx.setNuV ν Option.none Go.undef) w') ∧ (∀ (D : Nat → Bool) (ν : Nat → Go.Value) (w : Go.World), G D ν
 w → D (38 : Nat) = Bool.false → D (35 : Nat) = Bool.true → ∃ (fid : Nat), ∃ (first : Array Go.Value), ∃ (captured : Array Go.Value), x_20 = Go.Value.func (Go.Fn.func fid) first captured ∧ Go.Sx.bodied
 Go.Proofs.Tryd.prog fid = Bool.true ∧ Go.Sx.CallsV Go.Proofs.Tryd.prog fid (List.toArray (Array.toList first ++ ([Go.Value.int Go.IntKind.i64 (15 : Int)] ++ Array.toList captured))) w fun (r :
 Go.Value) (w' : Go.World) => ∃ (x : Go.Value), r = x ∧ G (Go.Sx.setD D (38 : Nat)) (Go.Sx.setNuV ν (Option.some (45 : Nat)) x) w') ∧ (∀ (D : Nat → Bool) (ν : Nat → Go.Value) (w : Go.World), G D ν w → D
 (39 : Nat) = Bool.false → D (0 : Nat) = Bool.true → D (38 : Nat) = Bool.true → ∃ (x : Option Nat), ν (14 : Nat) = Go.Value.map x ∧ ∃ (w' : Go.World), Go.Sx.RunsTo Go.Proofs.Tryd.prog
 (Go.Instr.mapUpdate (96 : Nat) (Go.Value.map x) (Go.Value.int Go.IntKind.u8 (50 : Int)) (ν (45 : Nat))) w () w' ∧ G (Go.Sx.setD D (39 : Nat)) (Go.Sx.setNuV ν Option.none Go.undef) w') ∧ (∀ (D : Nat →
 Bool) (ν : Nat → Go.Value) (w : Go.World), G D ν w → D (41 : Nat) = Bool.false → D (38 : Nat) = Bool.true → ∃ (fid : Nat), ∃ (first : Array Go.Value), ∃ (captured : Array Go.Value), x_21 =
 Go.Value.func (Go.Fn.func fid) first captured ∧ Go.Sx.bodied Go.Proofs.Tryd.prog fid = Bool.true ∧ Go.Sx.CallsV Go.Proofs.Tryd.prog fid (List.toArray (Array.toList first ++ ([Go.Value.int
 Go.IntKind.i64 (2 : Int)] ++ Array.toList captured))) w fun (r : Go.Value) (w' : Go.World) => ∃ (x : Go.Value), r = x ∧ G (Go.Sx.setD D (41 : Nat)) (Go.Sx.setNuV ν (Option.some (47 : Nat)) x) w') ∧ (∀
 (D : Nat → Bool) (ν : Nat → Go.Value) (w : Go.World), G D ν w → D (42 : Nat) = Bool.false → D (0 : Nat) = Bool.true → D (41 : Nat) = Bool.true → ∃ (x : Option Nat), ν (14 : Nat) = Go.Value.map x ∧ ∃
 (w' : Go.World), Go.Sx.RunsTo Go.Proofs.Tryd.prog (Go.Instr.mapUpdate (96 : Nat) (Go.Value.map x) (Go.Value.int Go.IntKind.u8 (49 : Int)) (ν (47 : Nat))) w () w' ∧ G (Go.Sx.setD D (42 : Nat))
 (Go.Sx.setNuV ν Option.none Go.undef) w') ∧ (∀ (D : Nat → Bool) (ν : Nat → Go.Value) (w : Go.World), G D ν w → D (44 : Nat) = Bool.false → D (41 : Nat) = Bool.true → ∃ (fid : Nat), ∃ (first : Array
 Go.Value), ∃ (captured : Array Go.Value), x_22 = Go.Value.func (Go.Fn.func fid) first captured ∧ Go.Sx.bodied Go.Proofs.Tryd.prog fid = Bool.true ∧ Go.Sx.CallsV Go.Proofs.Tryd.prog fid (List.toArray
 (Array.toList first ++ ([Go.Value.int Go.IntKind.i64 (10 : Int)] ++ Array.toList captured))) w fun (r : Go.Value) (w' : Go.World) => ∃ (x : Go.Value), r = x ∧ G (Go.Sx.setD D (44 : Nat)) (Go.Sx.setNuV
 ν (Option.some (49 : Nat)) x) w') ∧ (∀ (D : Nat → Bool) (ν : Nat → Go.Value) (w : Go.World), G D ν w → D (45 : Nat) = Bool.false → D (0 : Nat) = Bool.true → D (44 : Nat) = Bool.true → ∃ (x : Option
 Nat), ν (14 : Nat) = Go.Value.map x ∧ ∃ (w' : Go.World), Go.Sx.RunsTo Go.Proofs.Tryd.prog (Go.Instr.mapUpdate (96 : Nat) (Go.Value.map x) (Go.Value.int Go.IntKind.u8 (102 : Int)) (ν (49 : Nat))) w ()
 w' ∧ G (Go.Sx.setD D (45 : Nat)) (Go.Sx.setNuV ν Option.none Go.undef) w') ∧ (∀ (D : Nat → Bool) (ν : Nat → Go.Value) (w : Go.World), G D ν w → D (47 : Nat) = Bool.false → D (44 : Nat) = Bool.true → ∃
 (fid : Nat), ∃ (first : Array Go.Value), ∃ (captured : Array Go.Value), x_23 = Go.Value.func (Go.Fn.func fid) first captured ∧ Go.Sx.bodied Go.Proofs.Tryd.prog fid = Bool.true ∧ Go.Sx.CallsV
 Go.Proofs.Tryd.prog fid (List.toArray (Array.toList first ++ ([Go.Value.int Go.IntKind.i64 (60 : Int)] ++ Array.toList captured))) w fun (r : Go.Value) (w' : Go.World) => ∃ (x : Go.Value), r = x ∧ G
 (Go.Sx.setD D (47 : Nat)) (Go.Sx.setNuV ν (Option.some (51 : Nat)) x) w') ∧ (∀ (D : Nat → Bool) (ν : Nat → Go.Value) (w : Go.World), G D ν w → D (48 : Nat) = Bool.false → D (0 : Nat) = Bool.true → D
 (47 : Nat) = Bool.true → ∃ (x : Option Nat), ν (14 : Nat) = Go.Value.map x ∧ ∃ (w' : Go.World), Go.Sx.RunsTo Go.Proofs.Tryd.prog (Go.Instr.mapUpdate (96 : Nat) (Go.Value.map x) (Go.Value.int
 Go.IntKind.u8 (120 : Int)) (ν (51 : Nat))) w () w' ∧ G (Go.Sx.setD D (48 : Nat)) (Go.Sx.setNuV ν Option.none Go.undef) w') ∧ (∀ (D : Nat → Bool) (ν : Nat → Go.Value) (w : Go.World), G D ν w → D (50 :
 Nat) = Bool.false → D (0 : Nat) = Bool.true → ∃ (x : Option Nat), ν (14 : Nat) = Go.Value.map x ∧ ∃ (w' : Go.World), Go.Sx.RunsTo Go.Proofs.Tryd.prog (Go.Instr.mapUpdate (96 : Nat) (Go.Value.map x)
 (Go.Value.int Go.IntKind.u8 (106 : Int)) (Go.Value.func (Go.Fn.func (52 : Nat)) #[] #[Go.Value.pointer (Option.some (Go.Addr.mk g_2 (0 : Nat) Option.none)), Go.Value.pointer (Option.some (Go.Addr.mk
 g_1 (0 : Nat) Option.none)), Go.Value.pointer (Option.some (Go.Addr.mk g (0 : Nat) Option.none))])) w () w' ∧ G (Go.Sx.setD D (50 : Nat)) (Go.Sx.setNuV ν Option.none Go.undef) w') ∧ (∀ (D : Nat → Bool)
 (ν : Nat → Go.Value) (w : Go.World), G D ν w → D (52 : Nat) = Bool.false → D (0 : Nat) = Bool.true → ∃ (x : Option Nat), ν (14 : Nat) = Go.Value.map x ∧ ∃ (w' : Go.World), Go.Sx.RunsTo
 Go.Proofs.Tryd.prog (Go.Instr.mapUpdate (96 : Nat) (Go.Value.map x) (Go.Value.int Go.IntKind.u8 (110 : Int)) (Go.Value.func (Go.Fn.func (53 : Nat)) #[] #[Go.Value.pointer (Option.some (Go.Addr.mk g_2
 (0 : Nat) Option.none)), Go.Value.pointer (Option.some (Go.Addr.mk g_1 (0 : Nat) Option.none))])) w () w' ∧ G (Go.Sx.setD D (52 : Nat)) (Go.Sx.setNuV ν Option.none Go.undef) w') ∧ (∀ (D : Nat → Bool)
 (ν : Nat → Go.Value) (w : Go.World), G D ν w → D (54 : Nat) = Bool.false → D (0 : Nat) = Bool.true → ∃ (x : Option Nat), ν (14 : Nat) = Go.Value.map x ∧ ∃ (w' : Go.World), Go.Sx.RunsTo
 Go.Proofs.Tryd.prog (Go.Instr.mapUpdate (96 : Nat) (Go.Value.map x) (Go.Value.int Go.IntKind.u8 (109 : Int)) (Go.Value.func (Go.Fn.func (54 : Nat)) #[] #[Go.Value.pointer (Option.some (Go.Addr.mk g_2
 (0 : Nat) Option.none)), Go.Value.pointer (Option.some (Go.Addr.mk g (0 : Nat) Option.none))])) w () w' ∧ G (Go.Sx.setD D (54 : Nat)) (Go.Sx.setNuV ν Option.none Go.undef) w') ∧ (∀ (D : Nat → Bool) (ν
 : Nat → Go.Value) (w : Go.World), G D ν w → D (56 : Nat) = Bool.false → D (47 : Nat) = Bool.true → ∃ (fid : Nat), ∃ (first : Array Go.Value), ∃ (captured : Array Go.Value), Go.Value.func (Go.Fn.func
 (49 : Nat)) #[] #[Go.Value.pointer (Option.some (Go.Addr.mk g_3 (0 : Nat) Option.none)), Go.Value.pointer (Option.some (Go.Addr.mk g (0 : Nat) Option.none)), Go.Value.pointer (Option.some (Go.Addr.mk
 g_2 (0 : Nat) Option.none))] = Go.Value.func (Go.Fn.func fid) first captured ∧ Go.Sx.bodied Go.Proofs.Tryd.prog fid = Bool.true ∧ Go.Sx.CallsV Go.Proofs.Tryd.prog fid (List.toArray (Array.toList first
 ++ ([Go.Value.func (Go.Fn.func (55 : Nat)) #[] #[]] ++ Array.toList captured))) w fun (r : Go.Value) (w' : Go.World) => ∃ (x : Go.Value), r = x ∧ G (Go.Sx.setD D (56 : Nat)) (Go.Sx.setNuV ν
 (Option.some (56 : Nat)) x) w') ∧ (∀ (D : Nat → Bool) (ν : Nat → Go.Value) (w : Go.World), G D ν w → D (57 : Nat) = Bool.false → D (0 : Nat) = Bool.true → D (56 : Nat) = Bool.true → ∃ (x : Option Nat),
 ν (14 : Nat) = Go.Value.map x ∧ ∃ (w' : Go.World), Go.Sx.RunsTo Go.Proofs.Tryd.prog (Go.Instr.mapUpdate (96 : Nat) (Go.Value.map x) (Go.Value.int Go.IntKind.u8 (105 : Int)) (ν (56 : Nat))) w () w' ∧ G
 (Go.Sx.setD D (57 : Nat)) (Go.Sx.setNuV ν Option.none Go.undef) w') ∧ (∀ (D : Nat → Bool) (ν : Nat → Go.Value) (w : Go.World), G D ν w → D (59 : Nat) = Bool.false → D (56 : Nat) = Bool.true → ∃ (fid :
 Nat), ∃ (first : Array Go.Value), ∃ (captured : Array Go.Value), Go.Value.func (Go.Fn.func (49 : Nat)) #[] #[Go.Value.pointer (Option.some (Go.Addr.mk g_3 (0 : Nat) Option.none)), Go.Value.pointer
 (Option.some (Go.Addr.mk g (0 : Nat) Option.none)), Go.Value.pointer (Option.some (Go.Addr.mk g_2 (0 : Nat) Option.none))] = Go.Value.func (Go.Fn.func fid) first captured ∧ Go.Sx.bodied
 Go.Proofs.Tryd.prog fid = Bool.true ∧ Go.Sx.CallsV Go.Proofs.Tryd.prog fid (List.toArray (Array.toList first ++ ([Go.Value.func (Go.Fn.func (56 : Nat)) #[] #[]] ++ Array.toList captured))) w fun (r :
 Go.Value) (w' : Go.World) => ∃ (x : Go.Value), r = x ∧ G (Go.Sx.setD D (59 : Nat)) (Go.Sx.setNuV ν (Option.some (58 : Nat)) x) w') ∧ (∀ (D : Nat → Bool) (ν : Nat → Go.Value) (w : Go.World), G D ν w → D
 (60 : Nat) = Bool.false → D (0 : Nat) = Bool.true → D (59 : Nat) = Bool.true → ∃ (x : Option Nat), ν (14 : Nat) = Go.Value.map x ∧ ∃ (w' : Go.World), Go.Sx.RunsTo Go.Proofs.Tryd.prog
 (Go.Instr.mapUpdate (96 : Nat) (Go.Value.map x) (Go.Value.int Go.IntKind.u8 (108 : Int)) (ν (58 : Nat))) w () w' ∧ G (Go.Sx.setD D (60 : Nat)) (Go.Sx.setNuV ν Option.none Go.undef) w') ∧ (∀ (D : Nat →
 Bool) (ν : Nat → Go.Value) (w : Go.World), G D ν w → D (62 : Nat) = Bool.false → D (59 : Nat) = Bool.true → ∃ (fid : Nat), ∃ (first : Array Go.Value), ∃ (captured : Array Go.Value), Go.Value.func
 (Go.Fn.func (49 : Nat)) #[] #[Go.Value.pointer (Option.some (Go.Addr.mk g_3 (0 : Nat) Option.none)), Go.Value.pointer (Option.some (Go.Addr.mk g (0 : Nat) Option.none)), Go.Value.pointer (Option.some
 (Go.Addr.mk g_2 (0 : Nat) Option.none))] = Go.Value.func (Go.Fn.func fid) first captured ∧ Go.Sx.bodied Go.Proofs.Tryd.prog fid = Bool.true ∧ Go.Sx.CallsV Go.Proofs.Tryd.prog fid (List.toArray
 (Array.toList first ++ ([Go.Value.func (Go.Fn.func (57 : Nat)) #[] #[]] ++ Array.toList captured))) w fun (r : Go.Value) (w' : Go.World) => ∃ (x : Go.Value), r = x ∧ G (Go.Sx.setD D (62 : Nat))
 (Go.Sx.setNuV ν (Option.some (60 : Nat)) x) w') ∧ (∀ (D : Nat → Bool) (ν : Nat → Go.Value) (w : Go.World), G D ν w → D (63 : Nat) = Bool.false → D (0 : Nat) = Bool.true → D (62 : Nat) = Bool.true → ∃
 (x : Option Nat), ν (14 : Nat) = Go.Value.map x ∧ ∃ (w' : Go.World), Go.Sx.RunsTo Go.Proofs.Tryd.prog (Go.Instr.mapUpdate (96 : Nat) (Go.Value.map x) (Go.Value.int Go.IntKind.u8 (119 : Int)) (ν (60 :
 Nat))) w () w' ∧ G (Go.Sx.setD D (63 : Nat)) (Go.Sx.setNuV ν Option.none Go.undef) w') ∧ ∀ (D : Nat → Bool) (ν : Nat → Go.Value) (w : Go.World), G D ν w → D (65 : Nat) = Bool.false → D (0 : Nat) =
 Bool.true → ∃ (x : Option Nat), ν (14 : Nat) = Go.Value.map x ∧ ∃ (w' : Go.World), Go.Sx.RunsTo Go.Proofs.Tryd.prog (Go.Instr.mapUpdate (96 : Nat) (Go.Value.map x) (Go.Value.int Go.IntKind.u8 (113 :
 Int)) (Go.Value.func (Go.Fn.func (58 : Nat)) #[] #[Go.Value.pointer (Option.some (Go.Addr.mk g_3 (0 : Nat) Option.none)), Go.Value.pointer (Option.some (Go.Addr.mk g (0 : Nat) Option.none)),
 Go.Value.pointer (Option.some (Go.Addr.mk g_2 (0 : Nat) Option.none))])) w () w' ∧ G (Go.Sx.setD D (65 : Nat)) (Go.Sx.setNuV ν Option.none Go.undef) w') ∧ ∀ (D : Nat → Bool) (ν : Nat → Go.Value) (w :
 Go.World), D (0 : Nat) = Bool.true → D (2 : Nat) = Bool.true → D (6 : Nat) = Bool.true → D (7 : Nat) = Bool.true → D (12 : Nat) = Bool.true → D (13 : Nat) = Bool.true → D (17 : Nat) = Bool.true → D (18
 : Nat) = Bool.true → D (23 : Nat) = Bool.true → D (24 : Nat) = Bool.true → D (29 : Nat) = Bool.true → D (30 : Nat) = Bool.true → D (35 : Nat) = Bool.true → D (36 : Nat) = Bool.true → D (38 : Nat) =
 Bool.true → D (39 : Nat) = Bool.true → D (41 : Nat) = Bool.true → D (42 : Nat) = Bool.true → D (44 : Nat) = Bool.true → D (45 : Nat) = Bool.true → D (47 : Nat) = Bool.true → D (48 : Nat) = Bool.true →
 D (50 : Nat) = Bool.true → D (52 : Nat) = Bool.true → D (54 : Nat) = Bool.true → D (56 : Nat) = Bool.true → D (57 : Nat) = Bool.true → D (59 : Nat) = Bool.true → D (60 : Nat) = Bool.true → D (62 : Nat)
 = Bool.true → D (63 : Nat) = Bool.true → D (65 : Nat) = Bool.true → G D ν w → ∃ (x : Option Nat), ν (14 : Nat) = Go.Value.map x ∧ ∃ (x_24 : Go.Value), ∃ (w' : Go.World), Go.Sx.RunsTo
 Go.Proofs.Tryd.prog (Go.Instr.lookup (96 : Nat) (Go.Value.map x) (Go.Value.int Go.IntKind.u8 letter) Bool.false) w x_24 w' ∧ ∃ (fid : Nat), ∃ (first : Array Go.Value), ∃ (captured : Array Go.Value),
 x_24 = Go.Value.func (Go.Fn.func fid) first captured ∧ Go.Sx.bodied Go.Proofs.Tryd.prog fid = Bool.true ∧ Go.Sx.CallsV Go.Proofs.Tryd.prog fid (List.toArray (Array.toList first ++ ([] ++ Array.toList
 captured))) w' fun (r : Go.Value) (w' : Go.World) => ∃ (x : Bool), r = Go.Value.bool x ∧ K (Go.Value.bool x) w'
theorem code_field.eq (p0 : Int) (p1 : Int) (p2 : Int) (p3_A : Option Addr) (p3_n : Nat) (p3_c : Nat) (p4_A : Option Addr) (p4_n : Nat) (p4_c : Nat) (p5_A : Option Addr) (p5_n : Nat) (p5_c : Nat) (p6_A : Option Addr) (p6_n : Nat) (p6_c : Nat) (p7_A : Option Addr) (p7_n : Nat) (p7_c : Nat) (p8_A : Option Addr) (p8_n : Nat) (p8_c : Nat) (atx : Int) (letter : Int) (n : Int) (w : World) (K : Value → World → Prop) : code_field.W p0 p1 p2 p3_A p3_n p3_c p4_A p4_n p4_c p5_A p5_n p5_c p6_A p6_n p6_c p7_A p7_n p7_c p8_A p8_n p8_c atx letter n w K = fnW Tryd.prog Tryd.f20 (.named (.named (.seq .auto (.seq .auto (.seq .auto (.seq (.loop [(14, .one .map)] .auto) .auto)))))) [.agg #[.int .i64 p0, .int .i64 p1, .int .i64 p2, .slice p3_A p3_n p3_c, .slice p4_A p4_n p4_c, .slice p5_A p5_n p5_c, .slice p6_A p6_n p6_c, .slice p7_A p7_n p7_c, .slice p8_A p8_n p8_c], .int .i64 atx, .int .u8 letter, .int .i64 n] w K := by kernel_rfl
theorem code_field.calls (ok : Okay Tryd.prog) {p0 : Int} {p1 : Int} {p2 : Int} {p3_A : Option Addr} {p3_n : Nat} {p3_c : Nat} {p4_A : Option Addr} {p4_n : Nat} {p4_c : Nat} {p5_A : Option Addr} {p5_n : Nat} {p5_c : Nat} {p6_A : Option Addr} {p6_n : Nat} {p6_c : Nat} {p7_A : Option Addr} {p7_n : Nat} {p7_c : Nat} {p8_A : Option Addr} {p8_n : Nat} {p8_c : Nat} {atx : Int} {letter : Int} {n : Int} {w : World} {K : Value → World → Prop} (h : code_field.W p0 p1 p2 p3_A p3_n p3_c p4_A p4_n p4_c p5_A p5_n p5_c p6_A p6_n p6_c p7_A p7_n p7_c p8_A p8_n p8_c atx letter n w K) : CallsV Tryd.prog 20 #[.agg #[.int .i64 p0, .int .i64 p1, .int .i64 p2, .slice p3_A p3_n p3_c, .slice p4_A p4_n p4_c, .slice p5_A p5_n p5_c, .slice p6_A p6_n p6_c, .slice p7_A p7_n p7_c, .slice p8_A p8_n p8_c], .int .i64 atx, .int .u8 letter, .int .i64 n] w K :=
  fnW_calls ok Tryd.func20 (an := (.named (.named (.seq .auto (.seq .auto (.seq .auto (.seq (.loop [(14, .one .map)] .auto) .auto))))))) (args := [.agg #[.int .i64 p0, .int .i64 p1, .int .i64 p2, .slice p3_A p3_n p3_c, .slice p4_A p4_n p4_c, .slice p5_A p5_n p5_c, .slice p6_A p6_n p6_c, .slice p7_A p7_n p7_c, .slice p8_A p8_n p8_c], .int .i64 atx, .int .u8 letter, .int .i64 n]) (by rw [← code_field.eq]; exact h)
end Go.Proofs.YtaifphjenebgoaaDoor
/- The preconditions of Go functions, printed by a program of this workplace (nests.py); each is proved to be the engine's own. -/
set_option linter.unusedVariables false
set_option maxRecDepth 100000
namespace Go.Proofs.YtaifphjenebgoaaDoor
open Go Go.Sx
noncomputable def slices_ContainsFunc_string_string.W : Option Addr → Nat → Nat → Value → World → (Value → World → Prop) → Prop := fun (s_A : Option Go.Addr) (s_n s_c : Nat) (f : Go.Value) (w :
 Go.World) (K : Go.Value → Go.World → Prop) => Go.Sx.CallsV Go.Proofs.Tryd.prog (73 : Nat) #[Go.Value.slice s_A s_n s_c, f] w fun (v : Go.Value) (w' : Go.World) => ∃ (x : Int), v = Go.Value.int
 Go.IntKind.i64 x ∧ K (Go.Value.bool (Decidable.decide ((0 : Int) ≤ x))) w'
theorem slices_ContainsFunc_string_string.eq (s_A : Option Addr) (s_n : Nat) (s_c : Nat) (f : Value) (w : World) (K : Value → World → Prop) : slices_ContainsFunc_string_string.W s_A s_n s_c f w K = fnW Tryd.prog Tryd.f42 (.named (.named .auto)) [.slice s_A s_n s_c, f] w K := by kernel_rfl
theorem slices_ContainsFunc_string_string.calls (ok : Okay Tryd.prog) {s_A : Option Addr} {s_n : Nat} {s_c : Nat} {f : Value} {w : World} {K : Value → World → Prop} (h : slices_ContainsFunc_string_string.W s_A s_n s_c f w K) : CallsV Tryd.prog 42 #[.slice s_A s_n s_c, f] w K :=
  fnW_calls ok Tryd.func42 (an := (.named (.named .auto))) (args := [.slice s_A s_n s_c, f]) (by rw [← slices_ContainsFunc_string_string.eq]; exact h)
noncomputable def slices_ContainsFunc_api_Value_api_Value.W : Option Addr → Nat → Nat → Value → World → (Value → World → Prop) → Prop := fun (s_A : Option Go.Addr) (s_n s_c : Nat) (f : Go.Value) (w :
 Go.World) (K : Go.Value → Go.World → Prop) => Go.Sx.CallsV Go.Proofs.Tryd.prog (74 : Nat) #[Go.Value.slice s_A s_n s_c, f] w fun (v : Go.Value) (w' : Go.World) => ∃ (x : Int), v = Go.Value.int
 Go.IntKind.i64 x ∧ K (Go.Value.bool (Decidable.decide ((0 : Int) ≤ x))) w'
theorem slices_ContainsFunc_api_Value_api_Value.eq (s_A : Option Addr) (s_n : Nat) (s_c : Nat) (f : Value) (w : World) (K : Value → World → Prop) : slices_ContainsFunc_api_Value_api_Value.W s_A s_n s_c f w K = fnW Tryd.prog Tryd.f43 (.named (.named .auto)) [.slice s_A s_n s_c, f] w K := by kernel_rfl
theorem slices_ContainsFunc_api_Value_api_Value.calls (ok : Okay Tryd.prog) {s_A : Option Addr} {s_n : Nat} {s_c : Nat} {f : Value} {w : World} {K : Value → World → Prop} (h : slices_ContainsFunc_api_Value_api_Value.W s_A s_n s_c f w K) : CallsV Tryd.prog 43 #[.slice s_A s_n s_c, f] w K :=
  fnW_calls ok Tryd.func43 (an := (.named (.named .auto))) (args := [.slice s_A s_n s_c, f]) (by rw [← slices_ContainsFunc_api_Value_api_Value.eq]; exact h)
noncomputable def slices_ContainsFunc_api_Cur_api_Cur.W : Option Addr → Nat → Nat → Value → World → (Value → World → Prop) → Prop := fun (s_A : Option Go.Addr) (s_n s_c : Nat) (f : Go.Value) (w :
 Go.World) (K : Go.Value → Go.World → Prop) => Go.Sx.CallsV Go.Proofs.Tryd.prog (75 : Nat) #[Go.Value.slice s_A s_n s_c, f] w fun (v : Go.Value) (w' : Go.World) => ∃ (x : Int), v = Go.Value.int
 Go.IntKind.i64 x ∧ K (Go.Value.bool (Decidable.decide ((0 : Int) ≤ x))) w'
theorem slices_ContainsFunc_api_Cur_api_Cur.eq (s_A : Option Addr) (s_n : Nat) (s_c : Nat) (f : Value) (w : World) (K : Value → World → Prop) : slices_ContainsFunc_api_Cur_api_Cur.W s_A s_n s_c f w K = fnW Tryd.prog Tryd.f44 (.named (.named .auto)) [.slice s_A s_n s_c, f] w K := by kernel_rfl
theorem slices_ContainsFunc_api_Cur_api_Cur.calls (ok : Okay Tryd.prog) {s_A : Option Addr} {s_n : Nat} {s_c : Nat} {f : Value} {w : World} {K : Value → World → Prop} (h : slices_ContainsFunc_api_Cur_api_Cur.W s_A s_n s_c f w K) : CallsV Tryd.prog 44 #[.slice s_A s_n s_c, f] w K :=
  fnW_calls ok Tryd.func44 (an := (.named (.named .auto))) (args := [.slice s_A s_n s_c, f]) (by rw [← slices_ContainsFunc_api_Cur_api_Cur.eq]; exact h)
noncomputable def slices_ContainsFunc_api_Sort_api_Sort.W : Option Addr → Nat → Nat → Value → World → (Value → World → Prop) → Prop := fun (s_A : Option Go.Addr) (s_n s_c : Nat) (f : Go.Value) (w :
 Go.World) (K : Go.Value → Go.World → Prop) => Go.Sx.CallsV Go.Proofs.Tryd.prog (76 : Nat) #[Go.Value.slice s_A s_n s_c, f] w fun (v : Go.Value) (w' : Go.World) => ∃ (x : Int), v = Go.Value.int
 Go.IntKind.i64 x ∧ K (Go.Value.bool (Decidable.decide ((0 : Int) ≤ x))) w'
theorem slices_ContainsFunc_api_Sort_api_Sort.eq (s_A : Option Addr) (s_n : Nat) (s_c : Nat) (f : Value) (w : World) (K : Value → World → Prop) : slices_ContainsFunc_api_Sort_api_Sort.W s_A s_n s_c f w K = fnW Tryd.prog Tryd.f45 (.named (.named .auto)) [.slice s_A s_n s_c, f] w K := by kernel_rfl
theorem slices_ContainsFunc_api_Sort_api_Sort.calls (ok : Okay Tryd.prog) {s_A : Option Addr} {s_n : Nat} {s_c : Nat} {f : Value} {w : World} {K : Value → World → Prop} (h : slices_ContainsFunc_api_Sort_api_Sort.W s_A s_n s_c f w K) : CallsV Tryd.prog 45 #[.slice s_A s_n s_c, f] w K :=
  fnW_calls ok Tryd.func45 (an := (.named (.named .auto))) (args := [.slice s_A s_n s_c, f]) (by rw [← slices_ContainsFunc_api_Sort_api_Sort.eq]; exact h)
noncomputable def slices_ContainsFunc_api_Acc_api_Acc.W : Option Addr → Nat → Nat → Value → World → (Value → World → Prop) → Prop := fun (s_A : Option Go.Addr) (s_n s_c : Nat) (f : Go.Value) (w :
 Go.World) (K : Go.Value → Go.World → Prop) => Go.Sx.CallsV Go.Proofs.Tryd.prog (77 : Nat) #[Go.Value.slice s_A s_n s_c, f] w fun (v : Go.Value) (w' : Go.World) => ∃ (x : Int), v = Go.Value.int
 Go.IntKind.i64 x ∧ K (Go.Value.bool (Decidable.decide ((0 : Int) ≤ x))) w'
theorem slices_ContainsFunc_api_Acc_api_Acc.eq (s_A : Option Addr) (s_n : Nat) (s_c : Nat) (f : Value) (w : World) (K : Value → World → Prop) : slices_ContainsFunc_api_Acc_api_Acc.W s_A s_n s_c f w K = fnW Tryd.prog Tryd.f46 (.named (.named .auto)) [.slice s_A s_n s_c, f] w K := by kernel_rfl
theorem slices_ContainsFunc_api_Acc_api_Acc.calls (ok : Okay Tryd.prog) {s_A : Option Addr} {s_n : Nat} {s_c : Nat} {f : Value} {w : World} {K : Value → World → Prop} (h : slices_ContainsFunc_api_Acc_api_Acc.W s_A s_n s_c f w K) : CallsV Tryd.prog 46 #[.slice s_A s_n s_c, f] w K :=
  fnW_calls ok Tryd.func46 (an := (.named (.named .auto))) (args := [.slice s_A s_n s_c, f]) (by rw [← slices_ContainsFunc_api_Acc_api_Acc.eq]; exact h)
noncomputable def slices_IndexFunc_string_string.W : Option Addr → Nat → Nat → Value → World → (Value → World → Prop) → Prop := fun (s_A : Option Go.Addr) (s_n s_c : Nat) (f : Go.Value) (w : Go.World)
 (K : Go.Value → Go.World → Prop) => ∃ (I : Int → Go.World → Prop), ∃ (μ : Int → Go.World → Nat), I (0 : Int) w ∧ ∀ (x : Int) (w : Go.World), I x w → bif Decidable.decide (x < (↑s_n : Int)) then ∃ (ad :
 Go.Addr), s_A = Option.some ad ∧ ((0 : Int) ≤ x ∧ x < (↑s_n : Int)) ∧ ∃ (x_1 : ByteArray), Go.World.cell? w (Go.Addr.add ad (Int.toNat x * (1 : Nat))) = Option.some (Go.Value.string x_1) ∧ ∃ (fid :
 Nat), ∃ (first : Array Go.Value), ∃ (captured : Array Go.Value), f = Go.Value.func (Go.Fn.func fid) first captured ∧ Go.Sx.bodied Go.Proofs.Tryd.prog fid = Bool.true ∧ Go.Sx.CallsV Go.Proofs.Tryd.prog
 fid (List.toArray (Array.toList first ++ ([Go.Value.string x_1] ++ Array.toList captured))) w fun (r : Go.Value) (w' : Go.World) => ∃ (x_2 : Bool), r = Go.Value.bool x_2 ∧ bif x_2 then K (Go.Value.int
 Go.IntKind.i64 x) w' else I (Go.IntKind.wrap Go.IntKind.i64 (x + (1 : Int))) w' ∧ μ (Go.IntKind.wrap Go.IntKind.i64 (x + (1 : Int))) w' < μ x w else K (Go.Value.int Go.IntKind.i64 (-1 : Int)) w
theorem slices_IndexFunc_string_string.eq (s_A : Option Addr) (s_n : Nat) (s_c : Nat) (f : Value) (w : World) (K : Value → World → Prop) : slices_IndexFunc_string_string.W s_A s_n s_c f w K = fnW Tryd.prog Tryd.f73 (.named (.named (.seq .auto (.seq (.seq .auto (.block (.loop [(8, .one (.int .i64))] .auto))) .auto)))) [.slice s_A s_n s_c, f] w K := by kernel_rfl
theorem slices_IndexFunc_string_string.calls (ok : Okay Tryd.prog) {s_A : Option Addr} {s_n : Nat} {s_c : Nat} {f : Value} {w : World} {K : Value → World → Prop} (h : slices_IndexFunc_string_string.W s_A s_n s_c f w K) : CallsV Tryd.prog 73 #[.slice s_A s_n s_c, f] w K :=
  fnW_calls ok Tryd.func73 (an := (.named (.named (.seq .auto (.seq (.seq .auto (.block (.loop [(8, .one (.int .i64))] .auto))) .auto))))) (args := [.slice s_A s_n s_c, f]) (by rw [← slices_IndexFunc_string_string.eq]; exact h)
noncomputable def slices_IndexFunc_api_Value_api_Value.W : Option Addr → Nat → Nat → Value → World → (Value → World → Prop) → Prop := fun (s_A : Option Go.Addr) (s_n s_c : Nat) (f : Go.Value) (w :
 Go.World) (K : Go.Value → Go.World → Prop) => ∃ (I : Int → Go.World → Prop), ∃ (μ : Int → Go.World → Nat), I (0 : Int) w ∧ ∀ (x : Int) (w : Go.World), I x w → bif Decidable.decide (x < (↑s_n : Int))
 then ∃ (ad : Go.Addr), s_A = Option.some ad ∧ ((0 : Int) ≤ x ∧ x < (↑s_n : Int)) ∧ ∃ (x_1 : Int), Go.World.cell? w (Go.Addr.add (Go.Addr.add ad (Int.toNat x * (3 : Nat))) (0 : Nat)) = Option.some
 (Go.Value.int Go.IntKind.u8 x_1) ∧ ∃ (x_2 : Int), Go.World.cell? w (Go.Addr.add (Go.Addr.add ad (Int.toNat x * (3 : Nat))) (1 : Nat)) = Option.some (Go.Value.int Go.IntKind.i64 x_2) ∧ ∃ (x_3 :
 ByteArray), Go.World.cell? w (Go.Addr.add (Go.Addr.add ad (Int.toNat x * (3 : Nat))) (2 : Nat)) = Option.some (Go.Value.string x_3) ∧ ∃ (fid : Nat), ∃ (first : Array Go.Value), ∃ (captured : Array
 Go.Value), f = Go.Value.func (Go.Fn.func fid) first captured ∧ Go.Sx.bodied Go.Proofs.Tryd.prog fid = Bool.true ∧ Go.Sx.CallsV Go.Proofs.Tryd.prog fid (List.toArray (Array.toList first ++
 ([Go.Value.agg #[Go.Value.int Go.IntKind.u8 x_1, Go.Value.int Go.IntKind.i64 x_2, Go.Value.string x_3]] ++ Array.toList captured))) w fun (r : Go.Value) (w' : Go.World) => ∃ (x_4 : Bool), r =
 Go.Value.bool x_4 ∧ bif x_4 then K (Go.Value.int Go.IntKind.i64 x) w' else I (Go.IntKind.wrap Go.IntKind.i64 (x + (1 : Int))) w' ∧ μ (Go.IntKind.wrap Go.IntKind.i64 (x + (1 : Int))) w' < μ x w else K
 (Go.Value.int Go.IntKind.i64 (-1 : Int)) w
theorem slices_IndexFunc_api_Value_api_Value.eq (s_A : Option Addr) (s_n : Nat) (s_c : Nat) (f : Value) (w : World) (K : Value → World → Prop) : slices_IndexFunc_api_Value_api_Value.W s_A s_n s_c f w K = fnW Tryd.prog Tryd.f74 (.named (.named (.seq .auto (.seq (.seq .auto (.block (.loop [(8, .one (.int .i64))] .auto))) .auto)))) [.slice s_A s_n s_c, f] w K := by kernel_rfl
theorem slices_IndexFunc_api_Value_api_Value.calls (ok : Okay Tryd.prog) {s_A : Option Addr} {s_n : Nat} {s_c : Nat} {f : Value} {w : World} {K : Value → World → Prop} (h : slices_IndexFunc_api_Value_api_Value.W s_A s_n s_c f w K) : CallsV Tryd.prog 74 #[.slice s_A s_n s_c, f] w K :=
  fnW_calls ok Tryd.func74 (an := (.named (.named (.seq .auto (.seq (.seq .auto (.block (.loop [(8, .one (.int .i64))] .auto))) .auto))))) (args := [.slice s_A s_n s_c, f]) (by rw [← slices_IndexFunc_api_Value_api_Value.eq]; exact h)
noncomputable def slices_IndexFunc_api_Cur_api_Cur.W : Option Addr → Nat → Nat → Value → World → (Value → World → Prop) → Prop := fun (s_A : Option Go.Addr) (s_n s_c : Nat) (f : Go.Value) (w :
 Go.World) (K : Go.Value → Go.World → Prop) => ∃ (I : Int → Go.World → Prop), ∃ (μ : Int → Go.World → Nat), I (0 : Int) w ∧ ∀ (x : Int) (w : Go.World), I x w → bif Decidable.decide (x < (↑s_n : Int))
 then ∃ (ad : Go.Addr), s_A = Option.some ad ∧ ((0 : Int) ≤ x ∧ x < (↑s_n : Int)) ∧ ∃ (x_1 : ByteArray), Go.World.cell? w (Go.Addr.add (Go.Addr.add ad (Int.toNat x * (3 : Nat))) (0 : Nat)) = Option.some
 (Go.Value.string x_1) ∧ ∃ (x_2 : Bool), Go.World.cell? w (Go.Addr.add (Go.Addr.add ad (Int.toNat x * (3 : Nat))) (1 : Nat)) = Option.some (Go.Value.bool x_2) ∧ ∃ (x_3 : Bool), Go.World.cell? w
 (Go.Addr.add (Go.Addr.add ad (Int.toNat x * (3 : Nat))) (2 : Nat)) = Option.some (Go.Value.bool x_3) ∧ ∃ (fid : Nat), ∃ (first : Array Go.Value), ∃ (captured : Array Go.Value), f = Go.Value.func
 (Go.Fn.func fid) first captured ∧ Go.Sx.bodied Go.Proofs.Tryd.prog fid = Bool.true ∧ Go.Sx.CallsV Go.Proofs.Tryd.prog fid (List.toArray (Array.toList first ++ ([Go.Value.agg #[Go.Value.string x_1,
 Go.Value.bool x_2, Go.Value.bool x_3]] ++ Array.toList captured))) w fun (r : Go.Value) (w' : Go.World) => ∃ (x_4 : Bool), r = Go.Value.bool x_4 ∧ bif x_4 then K (Go.Value.int Go.IntKind.i64 x) w' else
 I (Go.IntKind.wrap Go.IntKind.i64 (x + (1 : Int))) w' ∧ μ (Go.IntKind.wrap Go.IntKind.i64 (x + (1 : Int))) w' < μ x w else K (Go.Value.int Go.IntKind.i64 (-1 : Int)) w
theorem slices_IndexFunc_api_Cur_api_Cur.eq (s_A : Option Addr) (s_n : Nat) (s_c : Nat) (f : Value) (w : World) (K : Value → World → Prop) : slices_IndexFunc_api_Cur_api_Cur.W s_A s_n s_c f w K = fnW Tryd.prog Tryd.f75 (.named (.named (.seq .auto (.seq (.seq .auto (.block (.loop [(8, .one (.int .i64))] .auto))) .auto)))) [.slice s_A s_n s_c, f] w K := by kernel_rfl
theorem slices_IndexFunc_api_Cur_api_Cur.calls (ok : Okay Tryd.prog) {s_A : Option Addr} {s_n : Nat} {s_c : Nat} {f : Value} {w : World} {K : Value → World → Prop} (h : slices_IndexFunc_api_Cur_api_Cur.W s_A s_n s_c f w K) : CallsV Tryd.prog 75 #[.slice s_A s_n s_c, f] w K :=
  fnW_calls ok Tryd.func75 (an := (.named (.named (.seq .auto (.seq (.seq .auto (.block (.loop [(8, .one (.int .i64))] .auto))) .auto))))) (args := [.slice s_A s_n s_c, f]) (by rw [← slices_IndexFunc_api_Cur_api_Cur.eq]; exact h)
noncomputable def slices_IndexFunc_api_Sort_api_Sort.W : Option Addr → Nat → Nat → Value → World → (Value → World → Prop) → Prop := fun (s_A : Option Go.Addr) (s_n s_c : Nat) (f : Go.Value) (w :
 Go.World) (K : Go.Value → Go.World → Prop) => ∃ (I : Int → Go.World → Prop), ∃ (μ : Int → Go.World → Nat), I (0 : Int) w ∧ ∀ (x : Int) (w : Go.World), I x w → bif Decidable.decide (x < (↑s_n : Int))
 then ∃ (ad : Go.Addr), s_A = Option.some ad ∧ ((0 : Int) ≤ x ∧ x < (↑s_n : Int)) ∧ ∃ (x_1 : Option Go.Addr), ∃ (x_2 : Nat), ∃ (x_3 : Nat), Go.World.cell? w (Go.Addr.add (Go.Addr.add ad (Int.toNat x *
 (3 : Nat))) (0 : Nat)) = Option.some (Go.Value.slice x_1 x_2 x_3) ∧ ∃ (x_4 : Int), Go.World.cell? w (Go.Addr.add (Go.Addr.add ad (Int.toNat x * (3 : Nat))) (1 : Nat)) = Option.some (Go.Value.int
 Go.IntKind.i64 x_4) ∧ ∃ (x_5 : Bool), Go.World.cell? w (Go.Addr.add (Go.Addr.add ad (Int.toNat x * (3 : Nat))) (2 : Nat)) = Option.some (Go.Value.bool x_5) ∧ ∃ (fid : Nat), ∃ (first : Array Go.Value),
 ∃ (captured : Array Go.Value), f = Go.Value.func (Go.Fn.func fid) first captured ∧ Go.Sx.bodied Go.Proofs.Tryd.prog fid = Bool.true ∧ Go.Sx.CallsV Go.Proofs.Tryd.prog fid (List.toArray (Array.toList
 first ++ ([Go.Value.agg #[Go.Value.slice x_1 x_2 x_3, Go.Value.int Go.IntKind.i64 x_4, Go.Value.bool x_5]] ++ Array.toList captured))) w fun (r : Go.Value) (w' : Go.World) => ∃ (x_6 : Bool), r =
 Go.Value.bool x_6 ∧ bif x_6 then K (Go.Value.int Go.IntKind.i64 x) w' else I (Go.IntKind.wrap Go.IntKind.i64 (x + (1 : Int))) w' ∧ μ (Go.IntKind.wrap Go.IntKind.i64 (x + (1 : Int))) w' < μ x w else K
 (Go.Value.int Go.IntKind.i64 (-1 : Int)) w
theorem slices_IndexFunc_api_Sort_api_Sort.eq (s_A : Option Addr) (s_n : Nat) (s_c : Nat) (f : Value) (w : World) (K : Value → World → Prop) : slices_IndexFunc_api_Sort_api_Sort.W s_A s_n s_c f w K = fnW Tryd.prog Tryd.f76 (.named (.named (.seq .auto (.seq (.seq .auto (.block (.loop [(8, .one (.int .i64))] .auto))) .auto)))) [.slice s_A s_n s_c, f] w K := by kernel_rfl
theorem slices_IndexFunc_api_Sort_api_Sort.calls (ok : Okay Tryd.prog) {s_A : Option Addr} {s_n : Nat} {s_c : Nat} {f : Value} {w : World} {K : Value → World → Prop} (h : slices_IndexFunc_api_Sort_api_Sort.W s_A s_n s_c f w K) : CallsV Tryd.prog 76 #[.slice s_A s_n s_c, f] w K :=
  fnW_calls ok Tryd.func76 (an := (.named (.named (.seq .auto (.seq (.seq .auto (.block (.loop [(8, .one (.int .i64))] .auto))) .auto))))) (args := [.slice s_A s_n s_c, f]) (by rw [← slices_IndexFunc_api_Sort_api_Sort.eq]; exact h)
noncomputable def slices_IndexFunc_api_Acc_api_Acc.W : Option Addr → Nat → Nat → Value → World → (Value → World → Prop) → Prop := fun (s_A : Option Go.Addr) (s_n s_c : Nat) (f : Go.Value) (w :
 Go.World) (K : Go.Value → Go.World → Prop) => ∃ (I : Int → Go.World → Prop), ∃ (μ : Int → Go.World → Nat), I (0 : Int) w ∧ ∀ (x : Int) (w : Go.World), I x w → bif Decidable.decide (x < (↑s_n : Int))
 then ∃ (ad : Go.Addr), s_A = Option.some ad ∧ ((0 : Int) ≤ x ∧ x < (↑s_n : Int)) ∧ ∃ (x_1 : ByteArray), Go.World.cell? w (Go.Addr.add (Go.Addr.add ad (Int.toNat x * (2 : Nat))) (0 : Nat)) = Option.some
 (Go.Value.string x_1) ∧ ∃ (x_2 : Bool), Go.World.cell? w (Go.Addr.add (Go.Addr.add ad (Int.toNat x * (2 : Nat))) (1 : Nat)) = Option.some (Go.Value.bool x_2) ∧ ∃ (fid : Nat), ∃ (first : Array
 Go.Value), ∃ (captured : Array Go.Value), f = Go.Value.func (Go.Fn.func fid) first captured ∧ Go.Sx.bodied Go.Proofs.Tryd.prog fid = Bool.true ∧ Go.Sx.CallsV Go.Proofs.Tryd.prog fid (List.toArray
 (Array.toList first ++ ([Go.Value.agg #[Go.Value.string x_1, Go.Value.bool x_2]] ++ Array.toList captured))) w fun (r : Go.Value) (w' : Go.World) => ∃ (x_3 : Bool), r = Go.Value.bool x_3 ∧ bif x_3 then
 K (Go.Value.int Go.IntKind.i64 x) w' else I (Go.IntKind.wrap Go.IntKind.i64 (x + (1 : Int))) w' ∧ μ (Go.IntKind.wrap Go.IntKind.i64 (x + (1 : Int))) w' < μ x w else K (Go.Value.int Go.IntKind.i64 (-1 :
 Int)) w
theorem slices_IndexFunc_api_Acc_api_Acc.eq (s_A : Option Addr) (s_n : Nat) (s_c : Nat) (f : Value) (w : World) (K : Value → World → Prop) : slices_IndexFunc_api_Acc_api_Acc.W s_A s_n s_c f w K = fnW Tryd.prog Tryd.f77 (.named (.named (.seq .auto (.seq (.seq .auto (.block (.loop [(8, .one (.int .i64))] .auto))) .auto)))) [.slice s_A s_n s_c, f] w K := by kernel_rfl
theorem slices_IndexFunc_api_Acc_api_Acc.calls (ok : Okay Tryd.prog) {s_A : Option Addr} {s_n : Nat} {s_c : Nat} {f : Value} {w : World} {K : Value → World → Prop} (h : slices_IndexFunc_api_Acc_api_Acc.W s_A s_n s_c f w K) : CallsV Tryd.prog 77 #[.slice s_A s_n s_c, f] w K :=
  fnW_calls ok Tryd.func77 (an := (.named (.named (.seq .auto (.seq (.seq .auto (.block (.loop [(8, .one (.int .i64))] .auto))) .auto))))) (args := [.slice s_A s_n s_c, f]) (by rw [← slices_IndexFunc_api_Acc_api_Acc.eq]; exact h)
noncomputable def code_parts_5.W : Option Addr → Nat → Nat → Int → Bool → Addr → World → (Value → World → Prop) → Prop := fun (s0_A : Option Go.Addr) (s0_n s0_c : Nat) (s1 : Int) (s2 : Bool) (a1 :
 Go.Addr) (w : Go.World) (K : Go.Value → Go.World → Prop) => ∀ (g : Nat) (w' : Go.World), Go.Sx.Fresh w g w' [Go.Value.slice s0_A s0_n s0_c, Go.Value.int Go.IntKind.i64 s1, Go.Value.bool s2] (56 : Nat)
 → ∃ (x : Option Go.Addr), ∃ (x_1 : Nat), ∃ (x_2 : Nat), Go.World.cell? w' (Go.Addr.add (Go.Addr.mk g (0 : Nat) Option.none) (0 : Nat)) = Option.some (Go.Value.slice x x_1 x_2) ∧ bif Decidable.decide
 ((30 : Int) < (↑x_1 : Int)) then K (Go.Value.bool Bool.true) w' else ∃ (x : Go.Value), Go.World.cell? w' a1 = Option.some x ∧ ∃ (x_3 : Int), Go.World.cell? w' (Go.Addr.add (Go.Addr.mk g (0 : Nat)
 Option.none) (1 : Nat)) = Option.some (Go.Value.int Go.IntKind.i64 x_3) ∧ ∃ (fid : Nat), ∃ (first : Array Go.Value), ∃ (captured : Array Go.Value), x = Go.Value.func (Go.Fn.func fid) first captured ∧
 Go.Sx.bodied Go.Proofs.Tryd.prog fid = Bool.true ∧ Go.Sx.CallsV Go.Proofs.Tryd.prog fid (List.toArray (Array.toList first ++ ([Go.Value.int Go.IntKind.i64 x_3, Go.Value.int Go.IntKind.i64 (1 : Int),
 Go.Value.int Go.IntKind.i64 (60 : Int)] ++ Array.toList captured))) w' fun (r : Go.Value) (w' : Go.World) => ∃ (x : Bool), r = Go.Value.bool x ∧ K (Go.Value.bool !x) w'
theorem code_parts_5.eq (s0_A : Option Addr) (s0_n : Nat) (s0_c : Nat) (s1 : Int) (s2 : Bool) (a1 : Addr) (w : World) (K : Value → World → Prop) : code_parts_5.W s0_A s0_n s0_c s1 s2 a1 w K = fnW Tryd.prog Tryd.f39 (.named (.named .auto)) [.agg #[.slice s0_A s0_n s0_c, .int .i64 s1, .bool s2], .pointer (some a1)] w K := by kernel_rfl
theorem code_parts_5.calls (ok : Okay Tryd.prog) {s0_A : Option Addr} {s0_n : Nat} {s0_c : Nat} {s1 : Int} {s2 : Bool} {a1 : Addr} {w : World} {K : Value → World → Prop} (h : code_parts_5.W s0_A s0_n s0_c s1 s2 a1 w K) : CallsV Tryd.prog 39 #[.agg #[.slice s0_A s0_n s0_c, .int .i64 s1, .bool s2], .pointer (some a1)] w K :=
  fnW_calls ok Tryd.func39 (an := (.named (.named .auto))) (args := [.agg #[.slice s0_A s0_n s0_c, .int .i64 s1, .bool s2], .pointer (some a1)]) (by rw [← code_parts_5.eq]; exact h)
noncomputable def code_parts.W : Int → Int → Int → Option Addr → Nat → Nat → Option Addr → Nat → Nat → Option Addr → Nat → Nat → Option Addr → Nat → Nat → Option Addr → Nat → Nat → Option Addr → Nat →
 Nat → World → (Value → World → Prop) → Prop := fun (p0 p1 p2 : Int) (p3_A : Option Go.Addr) (p3_n p3_c : Nat) (p4_A : Option Go.Addr) (p4_n p4_c : Nat) (p5_A : Option Go.Addr) (p5_n p5_c : Nat) (p6_A :
 Option Go.Addr) (p6_n p6_c : Nat) (p7_A : Option Go.Addr) (p7_n p7_c : Nat) (p8_A : Option Go.Addr) (p8_n p8_c : Nat) (w : Go.World) (K : Go.Value → Go.World → Prop) => ∀ (g : Nat) (w' : Go.World),
 Go.Sx.Fresh w g w' [Go.Value.int Go.IntKind.i64 p0, Go.Value.int Go.IntKind.i64 p1, Go.Value.int Go.IntKind.i64 p2, Go.Value.slice p3_A p3_n p3_c, Go.Value.slice p4_A p4_n p4_c, Go.Value.slice p5_A
 p5_n p5_c, Go.Value.slice p6_A p6_n p6_c, Go.Value.slice p7_A p7_n p7_c, Go.Value.slice p8_A p8_n p8_c] (29 : Nat) → ∀ (g_1 : Nat) (w'_1 : Go.World), Go.Sx.Fresh w' g_1 w'_1 [Go.Value.nilFunc] (78 :
 Nat) → Go.Sx.cellsL (Go.Value.func (Go.Fn.func (34 : Nat)) #[] #[]) = [Go.Value.func (Go.Fn.func (34 : Nat)) #[] #[]] ∧ Go.Value.oneCell' (Go.Value.func (Go.Fn.func (34 : Nat)) #[] #[]) = Bool.true ∧
 Go.Sx.stOK (Go.Addr.mk g_1 (0 : Nat) Option.none) (0 : Nat) [Go.Value.func (Go.Fn.func (34 : Nat)) #[] #[]] w'_1 ∧ ∀ (w' : Go.World), w' = Go.Sx.setAll (Go.Addr.mk g_1 (0 : Nat) Option.none) (0 : Nat)
 [Go.Value.func (Go.Fn.func (34 : Nat)) #[] #[]] w'_1 → ∃ (x : Go.Value), Go.World.cell? w' (Go.Addr.mk g_1 (0 : Nat) Option.none) = Option.some x ∧ ∃ (x_1 : Int), Go.World.cell? w' (Go.Addr.add
 (Go.Addr.mk g (0 : Nat) Option.none) (0 : Nat)) = Option.some (Go.Value.int Go.IntKind.i64 x_1) ∧ ∃ (fid : Nat), ∃ (first : Array Go.Value), ∃ (captured : Array Go.Value), x = Go.Value.func (Go.Fn.func
 fid) first captured ∧ Go.Sx.bodied Go.Proofs.Tryd.prog fid = Bool.true ∧ Go.Sx.CallsV Go.Proofs.Tryd.prog fid (List.toArray (Array.toList first ++ ([Go.Value.int Go.IntKind.i64 x_1, Go.Value.int
 Go.IntKind.i64 (1 : Int), Go.Value.int Go.IntKind.i64 (1099511627776 : Int)] ++ Array.toList captured))) w' fun (r : Go.Value) (w' : Go.World) => ∃ (x : Bool), r = Go.Value.bool x ∧ bif x then ∃ (x :
 Go.Value), Go.World.cell? w' (Go.Addr.mk g_1 (0 : Nat) Option.none) = Option.some x ∧ ∃ (x_2 : Int), Go.World.cell? w' (Go.Addr.add (Go.Addr.mk g (0 : Nat) Option.none) (1 : Nat)) = Option.some
 (Go.Value.int Go.IntKind.i64 x_2) ∧ ∃ (fid : Nat), ∃ (first : Array Go.Value), ∃ (captured : Array Go.Value), x = Go.Value.func (Go.Fn.func fid) first captured ∧ Go.Sx.bodied Go.Proofs.Tryd.prog fid =
 Bool.true ∧ Go.Sx.CallsV Go.Proofs.Tryd.prog fid (List.toArray (Array.toList first ++ ([Go.Value.int Go.IntKind.i64 x_2, Go.Value.int Go.IntKind.i64 (1 : Int), Go.Value.int Go.IntKind.i64 (250 : Int)]
 ++ Array.toList captured))) w' fun (r : Go.Value) (w' : Go.World) => ∃ (x : Bool), r = Go.Value.bool x ∧ bif x then ∃ (x : Go.Value), Go.World.cell? w' (Go.Addr.mk g_1 (0 : Nat) Option.none) =
 Option.some x ∧ ∃ (x_3 : Int), Go.World.cell? w' (Go.Addr.add (Go.Addr.mk g (0 : Nat) Option.none) (2 : Nat)) = Option.some (Go.Value.int Go.IntKind.i64 x_3) ∧ ∃ (fid : Nat), ∃ (first : Array
 Go.Value), ∃ (captured : Array Go.Value), x = Go.Value.func (Go.Fn.func fid) first captured ∧ Go.Sx.bodied Go.Proofs.Tryd.prog fid = Bool.true ∧ Go.Sx.CallsV Go.Proofs.Tryd.prog fid (List.toArray
 (Array.toList first ++ ([Go.Value.int Go.IntKind.i64 x_3, Go.Value.int Go.IntKind.i64 (0 : Int), Go.Value.int Go.IntKind.i64 (1000 : Int)] ++ Array.toList captured))) w' fun (r : Go.Value) (w' :
 Go.World) => ∃ (x : Bool), r = Go.Value.bool x ∧ bif x then ∃ (x : Option Go.Addr), ∃ (x_4 : Nat), ∃ (x_5 : Nat), Go.World.cell? w' (Go.Addr.add (Go.Addr.mk g (0 : Nat) Option.none) (3 : Nat)) =
 Option.some (Go.Value.slice x x_4 x_5) ∧ bif Decidable.decide ((↑x_4 : Int) ≤ (200 : Int)) then ∃ (x : Option Go.Addr), ∃ (x_6 : Nat), ∃ (x_7 : Nat), Go.World.cell? w' (Go.Addr.add (Go.Addr.mk g (0 :
 Nat) Option.none) (4 : Nat)) = Option.some (Go.Value.slice x x_6 x_7) ∧ bif Decidable.decide ((↑x_6 : Int) ≤ (1000 : Int)) then ∃ (x : Option Go.Addr), ∃ (x_8 : Nat), ∃ (x_9 : Nat), Go.World.cell? w'
 (Go.Addr.add (Go.Addr.mk g (0 : Nat) Option.none) (5 : Nat)) = Option.some (Go.Value.slice x x_8 x_9) ∧ bif Decidable.decide ((↑x_8 : Int) ≤ (12 : Int)) then ∃ (x : Option Go.Addr), ∃ (x_10 : Nat), ∃
 (x_11 : Nat), Go.World.cell? w' (Go.Addr.add (Go.Addr.mk g (0 : Nat) Option.none) (6 : Nat)) = Option.some (Go.Value.slice x x_10 x_11) ∧ bif Decidable.decide ((↑x_10 : Int) ≤ (6 : Int)) then ∃ (x :
 Option Go.Addr), ∃ (x_12 : Nat), ∃ (x_13 : Nat), Go.World.cell? w' (Go.Addr.add (Go.Addr.mk g (0 : Nat) Option.none) (7 : Nat)) = Option.some (Go.Value.slice x x_12 x_13) ∧ bif Decidable.decide ((↑x_12
 : Int) ≤ (60 : Int)) then ∃ (x : Option Go.Addr), ∃ (x_14 : Nat), ∃ (x_15 : Nat), Go.World.cell? w' (Go.Addr.add (Go.Addr.mk g (0 : Nat) Option.none) (3 : Nat)) = Option.some (Go.Value.slice x x_14
 x_15) ∧ Go.Sx.CallsV Go.Proofs.Tryd.prog (42 : Nat) #[Go.Value.slice x x_14 x_15, Go.Value.func (Go.Fn.func (35 : Nat)) #[] #[]] w' fun (v : Go.Value) (w' : Go.World) => ∃ (x : Bool), v = Go.Value.bool
 x ∧ bif !x then ∃ (x : Option Go.Addr), ∃ (x_16 : Nat), ∃ (x_17 : Nat), Go.World.cell? w' (Go.Addr.add (Go.Addr.mk g (0 : Nat) Option.none) (4 : Nat)) = Option.some (Go.Value.slice x x_16 x_17) ∧
 Go.Sx.CallsV Go.Proofs.Tryd.prog (43 : Nat) #[Go.Value.slice x x_16 x_17, Go.Value.func (Go.Fn.func (36 : Nat)) #[] #[]] w' fun (v : Go.Value) (w' : Go.World) => ∃ (x : Bool), v = Go.Value.bool x ∧ bif
 !x then ∃ (x : Option Go.Addr), ∃ (x_18 : Nat), ∃ (x_19 : Nat), Go.World.cell? w' (Go.Addr.add (Go.Addr.mk g (0 : Nat) Option.none) (5 : Nat)) = Option.some (Go.Value.slice x x_18 x_19) ∧ Go.Sx.CallsV
 Go.Proofs.Tryd.prog (44 : Nat) #[Go.Value.slice x x_18 x_19, Go.Value.func (Go.Fn.func (38 : Nat)) #[] #[]] w' fun (v : Go.Value) (w' : Go.World) => ∃ (x : Bool), v = Go.Value.bool x ∧ bif !x then ∃ (x
 : Option Go.Addr), ∃ (x_20 : Nat), ∃ (x_21 : Nat), Go.World.cell? w' (Go.Addr.add (Go.Addr.mk g (0 : Nat) Option.none) (6 : Nat)) = Option.some (Go.Value.slice x x_20 x_21) ∧ Go.Sx.CallsV
 Go.Proofs.Tryd.prog (45 : Nat) #[Go.Value.slice x x_20 x_21, Go.Value.func (Go.Fn.func (39 : Nat)) #[] #[Go.Value.pointer (Option.some (Go.Addr.mk g_1 (0 : Nat) Option.none))]] w' fun (v : Go.Value)
 (w' : Go.World) => ∃ (x : Bool), v = Go.Value.bool x ∧ bif !x then ∃ (x : Option Go.Addr), ∃ (x_22 : Nat), ∃ (x_23 : Nat), Go.World.cell? w' (Go.Addr.add (Go.Addr.mk g (0 : Nat) Option.none) (7 : Nat))
 = Option.some (Go.Value.slice x x_22 x_23) ∧ Go.Sx.CallsV Go.Proofs.Tryd.prog (46 : Nat) #[Go.Value.slice x x_22 x_23, Go.Value.func (Go.Fn.func (40 : Nat)) #[] #[]] w' fun (v : Go.Value) (w' :
 Go.World) => ∃ (x : Bool), v = Go.Value.bool x ∧ K (Go.Value.bool !x) w' else K (Go.Value.bool Bool.false) w' else K (Go.Value.bool Bool.false) w' else K (Go.Value.bool Bool.false) w' else K
 (Go.Value.bool Bool.false) w' else K (Go.Value.bool Bool.false) w' else K (Go.Value.bool Bool.false) w' else K (Go.Value.bool Bool.false) w' else K (Go.Value.bool Bool.false) w' else K (Go.Value.bool
 Bool.false) w' else K (Go.Value.bool Bool.false) w' else K (Go.Value.bool Bool.false) w' else K (Go.Value.bool Bool.false) w'
theorem code_parts.eq (p0 : Int) (p1 : Int) (p2 : Int) (p3_A : Option Addr) (p3_n : Nat) (p3_c : Nat) (p4_A : Option Addr) (p4_n : Nat) (p4_c : Nat) (p5_A : Option Addr) (p5_n : Nat) (p5_c : Nat) (p6_A : Option Addr) (p6_n : Nat) (p6_c : Nat) (p7_A : Option Addr) (p7_n : Nat) (p7_c : Nat) (p8_A : Option Addr) (p8_n : Nat) (p8_c : Nat) (w : World) (K : Value → World → Prop) : code_parts.W p0 p1 p2 p3_A p3_n p3_c p4_A p4_n p4_c p5_A p5_n p5_c p6_A p6_n p6_c p7_A p7_n p7_c p8_A p8_n p8_c w K = fnW Tryd.prog Tryd.f18 (.named (.named .auto)) [.agg #[.int .i64 p0, .int .i64 p1, .int .i64 p2, .slice p3_A p3_n p3_c, .slice p4_A p4_n p4_c, .slice p5_A p5_n p5_c, .slice p6_A p6_n p6_c, .slice p7_A p7_n p7_c, .slice p8_A p8_n p8_c]] w K := by kernel_rfl
theorem code_parts.calls (ok : Okay Tryd.prog) {p0 : Int} {p1 : Int} {p2 : Int} {p3_A : Option Addr} {p3_n : Nat} {p3_c : Nat} {p4_A : Option Addr} {p4_n : Nat} {p4_c : Nat} {p5_A : Option Addr} {p5_n : Nat} {p5_c : Nat} {p6_A : Option Addr} {p6_n : Nat} {p6_c : Nat} {p7_A : Option Addr} {p7_n : Nat} {p7_c : Nat} {p8_A : Option Addr} {p8_n : Nat} {p8_c : Nat} {w : World} {K : Value → World → Prop} (h : code_parts.W p0 p1 p2 p3_A p3_n p3_c p4_A p4_n p4_c p5_A p5_n p5_c p6_A p6_n p6_c p7_A p7_n p7_c p8_A p8_n p8_c w K) : CallsV Tryd.prog 18 #[.agg #[.int .i64 p0, .int .i64 p1, .int .i64 p2, .slice p3_A p3_n p3_c, .slice p4_A p4_n p4_c, .slice p5_A p5_n p5_c, .slice p6_A p6_n p6_c, .slice p7_A p7_n p7_c, .slice p8_A p8_n p8_c]] w K :=
  fnW_calls ok Tryd.func18 (an := (.named (.named .auto))) (args := [.agg #[.int .i64 p0, .int .i64 p1, .int .i64 p2, .slice p3_A p3_n p3_c, .slice p4_A p4_n p4_c, .slice p5_A p5_n p5_c, .slice p6_A p6_n p6_c, .slice p7_A p7_n p7_c, .slice p8_A p8_n p8_c]]) (by rw [← code_parts.eq]; exact h)
end Go.Proofs.YtaifphjenebgoaaDoor
/- Layer 15 (code): what of a program but its code may be. -/
set_option linter.unusedVariables false
set_option linter.unusedSimpArgs false
namespace Go.Proofs.YtaifphjenebgoaaDoor
open Go Go.Sx R1 K15
def KCur : Kd Cur := ⟨3, fun _ _ a cs => cs = [.string a.name, .bool a.ix, .bool a.wr], fun h => by simp [h], fun h _ => h⟩
def KSrt : Kd Srt := ⟨3, fun Ω w a cs => ∃ A c, cs = [.slice A a.desc.length c, .int .i64 a.cols, .bool a.dist] ∧ a.desc.length ≤ c ∧ Imm Kd.bool Ω w A a.desc, fun ⟨_, _, h, _⟩ => by simp [h], fun ⟨A, c, h, hc, hi⟩ st => ⟨A, c, h, hc, hi.keep (by decide) st⟩⟩
def KTot : Kd Tot := ⟨2, fun _ _ a cs => cs = [.string a.fn, .bool a.dist], fun h => by simp [h], fun h _ => h⟩
def KIns : Kd Ins := ⟨5, fun _ _ a cs => cs = [.int .u8 a.op, .int .i64 a.a, .int .i64 a.b, .int .i64 a.c, .int .i64 a.d], fun h => by simp [h], fun h _ => h⟩
theorem KCur_pos : 0 < KCur.size := by decide
theorem KSrt_pos : 0 < KSrt.size := by decide
theorem KTot_pos : 0 < KTot.size := by decide
theorem KIns_pos : 0 < KIns.size := by decide
theorem KStr_pos : 0 < Kd.str.size := by decide
/-- a function value that tells of a thing whether p, from a world on; 'arg': the thing as an argument -/
def Tests {α : Type} (K : Kd α) (arg : List Value → Value) (w : World) (f : Value) (p : α → Bool) : Prop :=
  ∀ u, Ext w u → ∀ a cs, K.rep NoB u a cs → ∃ (fid : FuncId) (first captured : Array Value), f = .func (.func fid) first captured ∧ bodied Tryd.prog fid = true ∧
    CallsV Tryd.prog fid (first.toList ++ ([arg cs] ++ captured.toList)).toArray u fun r w' => r = .bool (p a) ∧ Ext u w'
def argA (cs : List Value) : Value := .agg cs.toArray
def arg1 (cs : List Value) : Value := cs.headD undef
/-- where the first one is that p holds of -/
def firstI {α : Type} (p : α → Bool) : List α → Nat → Int
  | [], _ => -1
  | x :: l, i => if p x then (i : Int) else firstI p l (i + 1)
theorem firstI_any {α : Type} (p : α → Bool) : ∀ (l : List α) (i : Nat), decide (0 ≤ firstI p l i) = l.any p
  | [], _ => rfl
  | x :: l, i => by
    rw [firstI, List.any_cons]
    cases h : p x
    · rw [if_neg (by decide), firstI_any p l (i + 1)]; simp
    · rw [if_pos rfl]
      simp
theorem firstI_drop {α : Type} (p : α → Bool) (l : List α) (j : Nat) (h : j < l.length) : firstI p (l.drop j) j = if p l[j] then (j : Int) else firstI p (l.drop (j + 1)) (j + 1) := by
  rw [List.drop_eq_getElem_cons h, firstI]
theorem index_string {w : World} {A : Option Addr} {c n : Nat} {l : List ByteArray} {f : Value} {p : ByteArray → Bool} (hn : n = l.length) (hi : Imm Kd.str NoB w A l) (hl : l.length ≤ maxLen) (hf : Tests Kd.str arg1 w f p) :
    CallsV Tryd.prog 73 #[.slice A n c, f] w fun r w' => r = .int .i64 (firstI p l 0) ∧ Ext w w' := by
  subst hn
  simp only [maxLen] at hl
  refine slices_IndexFunc_string_string.calls okay ?_
  unfold slices_IndexFunc_string_string.W
  refine ⟨fun x u => ∃ j : Nat, j ≤ l.length ∧ x = (j : Int) ∧ firstI p l 0 = firstI p (l.drop j) j ∧ Ext w u, fun x _ => (l.length - x).toNat, ⟨0, by omega, rfl, rfl, .refl _ _⟩, ?_⟩
  rintro _ u ⟨j, hj, rfl, hq, e⟩
  refine brd (fun hlt => ?_) (fun hge => ?_)
  · have hjl : j < l.length := by omega
    obtain ⟨ad, hA, cs, hrep, hc⟩ := (hi.ext (by decide) e).get1 hjl
    rw [firstI_drop p l j hjl] at hq
    have hcs : cs = [.string l[j]] := hrep
    subst hcs
    obtain ⟨fid, first, captured, rfl, hb, hcall⟩ := hf u e _ _ hrep
    refine ⟨ad, hA, ⟨by omega, by omega⟩, _, by rw [Int.toNat_natCast]; exact hc 0 _ rfl, fid, first, captured, rfl, hb, ?_⟩
    refine hcall.mono ?_
    rintro _ u1 ⟨rfl, e1⟩
    refine ⟨_, rfl, ?_⟩
    cases hp : p l[j] with
    | true =>
      rw [cond_true]
      rw [hp, if_pos rfl] at hq
      exact ⟨by rw [hq], e.trans' e1⟩
    | false =>
      rw [cond_false]
      rw [hp, if_neg (by decide)] at hq
      rw [wi _ (by omega) (by omega)]
      exact ⟨⟨j + 1, by omega, rfl, hq, e.trans' e1⟩, by dsimp only; omega⟩
  · obtain rfl : j = l.length := by omega
    rw [List.drop_length] at hq
    exact ⟨by rw [hq]; rfl, e⟩
theorem contains_string {w : World} {A : Option Addr} {c n : Nat} {l : List ByteArray} {f : Value} {p : ByteArray → Bool} (hn : n = l.length) (hi : Imm Kd.str NoB w A l) (hl : l.length ≤ maxLen) (hf : Tests Kd.str arg1 w f p) :
    CallsV Tryd.prog 42 #[.slice A n c, f] w fun r w' => r = .bool (l.any p) ∧ Ext w w' := by
  refine slices_ContainsFunc_string_string.calls okay ?_
  unfold slices_ContainsFunc_string_string.W
  refine (index_string hn hi hl hf).mono ?_
  rintro _ u ⟨rfl, e⟩
  exact ⟨_, rfl, by rw [firstI_any], e⟩
theorem index_api_Value {w : World} {A : Option Addr} {c n : Nat} {l : List V} {f : Value} {p : V → Bool} (hn : n = l.length) (hi : Imm KV NoB w A l) (hl : l.length ≤ maxLen) (hf : Tests KV argA w f p) :
    CallsV Tryd.prog 74 #[.slice A n c, f] w fun r w' => r = .int .i64 (firstI p l 0) ∧ Ext w w' := by
  subst hn
  simp only [maxLen] at hl
  refine slices_IndexFunc_api_Value_api_Value.calls okay ?_
  unfold slices_IndexFunc_api_Value_api_Value.W
  refine ⟨fun x u => ∃ j : Nat, j ≤ l.length ∧ x = (j : Int) ∧ firstI p l 0 = firstI p (l.drop j) j ∧ Ext w u, fun x _ => (l.length - x).toNat, ⟨0, by omega, rfl, rfl, .refl _ _⟩, ?_⟩
  rintro _ u ⟨j, hj, rfl, hq, e⟩
  refine brd (fun hlt => ?_) (fun hge => ?_)
  · have hjl : j < l.length := by omega
    obtain ⟨ad, hA, cs, hrep, hc⟩ := (hi.ext (by decide) e).get1 hjl
    rw [firstI_drop p l j hjl] at hq
    have hcs : cs = vc l[j] := hrep
    subst hcs
    obtain ⟨fid, first, captured, rfl, hb, hcall⟩ := hf u e _ _ hrep
    refine ⟨ad, hA, ⟨by omega, by omega⟩, _, by rw [Int.toNat_natCast, add_add]; exact hc 0 _ rfl, _, by rw [Int.toNat_natCast, add_add]; exact hc 1 _ rfl, _, by rw [Int.toNat_natCast, add_add]; exact hc 2 _ rfl, fid, first, captured, rfl, hb, ?_⟩
    refine hcall.mono ?_
    rintro _ u1 ⟨rfl, e1⟩
    refine ⟨_, rfl, ?_⟩
    cases hp : p l[j] with
    | true =>
      rw [cond_true]
      rw [hp, if_pos rfl] at hq
      exact ⟨by rw [hq], e.trans' e1⟩
    | false =>
      rw [cond_false]
      rw [hp, if_neg (by decide)] at hq
      rw [wi _ (by omega) (by omega)]
      exact ⟨⟨j + 1, by omega, rfl, hq, e.trans' e1⟩, by dsimp only; omega⟩
  · obtain rfl : j = l.length := by omega
    rw [List.drop_length] at hq
    exact ⟨by rw [hq]; rfl, e⟩
theorem contains_api_Value {w : World} {A : Option Addr} {c n : Nat} {l : List V} {f : Value} {p : V → Bool} (hn : n = l.length) (hi : Imm KV NoB w A l) (hl : l.length ≤ maxLen) (hf : Tests KV argA w f p) :
    CallsV Tryd.prog 43 #[.slice A n c, f] w fun r w' => r = .bool (l.any p) ∧ Ext w w' := by
  refine slices_ContainsFunc_api_Value_api_Value.calls okay ?_
  unfold slices_ContainsFunc_api_Value_api_Value.W
  refine (index_api_Value hn hi hl hf).mono ?_
  rintro _ u ⟨rfl, e⟩
  exact ⟨_, rfl, by rw [firstI_any], e⟩
theorem index_api_Cur {w : World} {A : Option Addr} {c n : Nat} {l : List Cur} {f : Value} {p : Cur → Bool} (hn : n = l.length) (hi : Imm KCur NoB w A l) (hl : l.length ≤ maxLen) (hf : Tests KCur argA w f p) :
    CallsV Tryd.prog 75 #[.slice A n c, f] w fun r w' => r = .int .i64 (firstI p l 0) ∧ Ext w w' := by
  subst hn
  simp only [maxLen] at hl
  refine slices_IndexFunc_api_Cur_api_Cur.calls okay ?_
  unfold slices_IndexFunc_api_Cur_api_Cur.W
  refine ⟨fun x u => ∃ j : Nat, j ≤ l.length ∧ x = (j : Int) ∧ firstI p l 0 = firstI p (l.drop j) j ∧ Ext w u, fun x _ => (l.length - x).toNat, ⟨0, by omega, rfl, rfl, .refl _ _⟩, ?_⟩
  rintro _ u ⟨j, hj, rfl, hq, e⟩
  refine brd (fun hlt => ?_) (fun hge => ?_)
  · have hjl : j < l.length := by omega
    obtain ⟨ad, hA, cs, hrep, hc⟩ := (hi.ext (by decide) e).get1 hjl
    rw [firstI_drop p l j hjl] at hq
    have hcs : cs = [.string l[j].name, .bool l[j].ix, .bool l[j].wr] := hrep
    subst hcs
    obtain ⟨fid, first, captured, rfl, hb, hcall⟩ := hf u e _ _ hrep
    refine ⟨ad, hA, ⟨by omega, by omega⟩, _, by rw [Int.toNat_natCast, add_add]; exact hc 0 _ rfl, _, by rw [Int.toNat_natCast, add_add]; exact hc 1 _ rfl, _, by rw [Int.toNat_natCast, add_add]; exact hc 2 _ rfl, fid, first, captured, rfl, hb, ?_⟩
    refine hcall.mono ?_
    rintro _ u1 ⟨rfl, e1⟩
    refine ⟨_, rfl, ?_⟩
    cases hp : p l[j] with
    | true =>
      rw [cond_true]
      rw [hp, if_pos rfl] at hq
      exact ⟨by rw [hq], e.trans' e1⟩
    | false =>
      rw [cond_false]
      rw [hp, if_neg (by decide)] at hq
      rw [wi _ (by omega) (by omega)]
      exact ⟨⟨j + 1, by omega, rfl, hq, e.trans' e1⟩, by dsimp only; omega⟩
  · obtain rfl : j = l.length := by omega
    rw [List.drop_length] at hq
    exact ⟨by rw [hq]; rfl, e⟩
theorem contains_api_Cur {w : World} {A : Option Addr} {c n : Nat} {l : List Cur} {f : Value} {p : Cur → Bool} (hn : n = l.length) (hi : Imm KCur NoB w A l) (hl : l.length ≤ maxLen) (hf : Tests KCur argA w f p) :
    CallsV Tryd.prog 44 #[.slice A n c, f] w fun r w' => r = .bool (l.any p) ∧ Ext w w' := by
  refine slices_ContainsFunc_api_Cur_api_Cur.calls okay ?_
  unfold slices_ContainsFunc_api_Cur_api_Cur.W
  refine (index_api_Cur hn hi hl hf).mono ?_
  rintro _ u ⟨rfl, e⟩
  exact ⟨_, rfl, by rw [firstI_any], e⟩
theorem index_api_Sort {w : World} {A : Option Addr} {c n : Nat} {l : List Srt} {f : Value} {p : Srt → Bool} (hn : n = l.length) (hi : Imm KSrt NoB w A l) (hl : l.length ≤ maxLen) (hf : Tests KSrt argA w f p) :
    CallsV Tryd.prog 76 #[.slice A n c, f] w fun r w' => r = .int .i64 (firstI p l 0) ∧ Ext w w' := by
  subst hn
  simp only [maxLen] at hl
  refine slices_IndexFunc_api_Sort_api_Sort.calls okay ?_
  unfold slices_IndexFunc_api_Sort_api_Sort.W
  refine ⟨fun x u => ∃ j : Nat, j ≤ l.length ∧ x = (j : Int) ∧ firstI p l 0 = firstI p (l.drop j) j ∧ Ext w u, fun x _ => (l.length - x).toNat, ⟨0, by omega, rfl, rfl, .refl _ _⟩, ?_⟩
  rintro _ u ⟨j, hj, rfl, hq, e⟩
  refine brd (fun hlt => ?_) (fun hge => ?_)
  · have hjl : j < l.length := by omega
    obtain ⟨ad, hA, cs, hrep, hc⟩ := (hi.ext (by decide) e).get1 hjl
    rw [firstI_drop p l j hjl] at hq
    obtain ⟨D, dc, hcs, _⟩ := id hrep
    subst hcs
    obtain ⟨fid, first, captured, rfl, hb, hcall⟩ := hf u e _ _ hrep
    refine ⟨ad, hA, ⟨by omega, by omega⟩, _, _, _, by rw [Int.toNat_natCast, add_add]; exact hc 0 _ rfl, _, by rw [Int.toNat_natCast, add_add]; exact hc 1 _ rfl, _, by rw [Int.toNat_natCast, add_add]; exact hc 2 _ rfl, fid, first, captured, rfl, hb, ?_⟩
    refine hcall.mono ?_
    rintro _ u1 ⟨rfl, e1⟩
    refine ⟨_, rfl, ?_⟩
    cases hp : p l[j] with
    | true =>
      rw [cond_true]
      rw [hp, if_pos rfl] at hq
      exact ⟨by rw [hq], e.trans' e1⟩
    | false =>
      rw [cond_false]
      rw [hp, if_neg (by decide)] at hq
      rw [wi _ (by omega) (by omega)]
      exact ⟨⟨j + 1, by omega, rfl, hq, e.trans' e1⟩, by dsimp only; omega⟩
  · obtain rfl : j = l.length := by omega
    rw [List.drop_length] at hq
    exact ⟨by rw [hq]; rfl, e⟩
theorem contains_api_Sort {w : World} {A : Option Addr} {c n : Nat} {l : List Srt} {f : Value} {p : Srt → Bool} (hn : n = l.length) (hi : Imm KSrt NoB w A l) (hl : l.length ≤ maxLen) (hf : Tests KSrt argA w f p) :
    CallsV Tryd.prog 45 #[.slice A n c, f] w fun r w' => r = .bool (l.any p) ∧ Ext w w' := by
  refine slices_ContainsFunc_api_Sort_api_Sort.calls okay ?_
  unfold slices_ContainsFunc_api_Sort_api_Sort.W
  refine (index_api_Sort hn hi hl hf).mono ?_
  rintro _ u ⟨rfl, e⟩
  exact ⟨_, rfl, by rw [firstI_any], e⟩
theorem index_api_Acc {w : World} {A : Option Addr} {c n : Nat} {l : List Tot} {f : Value} {p : Tot → Bool} (hn : n = l.length) (hi : Imm KTot NoB w A l) (hl : l.length ≤ maxLen) (hf : Tests KTot argA w f p) :
    CallsV Tryd.prog 77 #[.slice A n c, f] w fun r w' => r = .int .i64 (firstI p l 0) ∧ Ext w w' := by
  subst hn
  simp only [maxLen] at hl
  refine slices_IndexFunc_api_Acc_api_Acc.calls okay ?_
  unfold slices_IndexFunc_api_Acc_api_Acc.W
  refine ⟨fun x u => ∃ j : Nat, j ≤ l.length ∧ x = (j : Int) ∧ firstI p l 0 = firstI p (l.drop j) j ∧ Ext w u, fun x _ => (l.length - x).toNat, ⟨0, by omega, rfl, rfl, .refl _ _⟩, ?_⟩
  rintro _ u ⟨j, hj, rfl, hq, e⟩
  refine brd (fun hlt => ?_) (fun hge => ?_)
  · have hjl : j < l.length := by omega
    obtain ⟨ad, hA, cs, hrep, hc⟩ := (hi.ext (by decide) e).get1 hjl
    rw [firstI_drop p l j hjl] at hq
    have hcs : cs = [.string l[j].fn, .bool l[j].dist] := hrep
    subst hcs
    obtain ⟨fid, first, captured, rfl, hb, hcall⟩ := hf u e _ _ hrep
    refine ⟨ad, hA, ⟨by omega, by omega⟩, _, by rw [Int.toNat_natCast, add_add]; exact hc 0 _ rfl, _, by rw [Int.toNat_natCast, add_add]; exact hc 1 _ rfl, fid, first, captured, rfl, hb, ?_⟩
    refine hcall.mono ?_
    rintro _ u1 ⟨rfl, e1⟩
    refine ⟨_, rfl, ?_⟩
    cases hp : p l[j] with
    | true =>
      rw [cond_true]
      rw [hp, if_pos rfl] at hq
      exact ⟨by rw [hq], e.trans' e1⟩
    | false =>
      rw [cond_false]
      rw [hp, if_neg (by decide)] at hq
      rw [wi _ (by omega) (by omega)]
      exact ⟨⟨j + 1, by omega, rfl, hq, e.trans' e1⟩, by dsimp only; omega⟩
  · obtain rfl : j = l.length := by omega
    rw [List.drop_length] at hq
    exact ⟨by rw [hq]; rfl, e⟩
theorem contains_api_Acc {w : World} {A : Option Addr} {c n : Nat} {l : List Tot} {f : Value} {p : Tot → Bool} (hn : n = l.length) (hi : Imm KTot NoB w A l) (hl : l.length ≤ maxLen) (hf : Tests KTot argA w f p) :
    CallsV Tryd.prog 46 #[.slice A n c, f] w fun r w' => r = .bool (l.any p) ∧ Ext w w' := by
  refine slices_ContainsFunc_api_Acc_api_Acc.calls okay ?_
  unfold slices_ContainsFunc_api_Acc_api_Acc.W
  refine (index_api_Acc hn hi hl hf).mono ?_
  rintro _ u ⟨rfl, e⟩
  exact ⟨_, rfl, by rw [firstI_any], e⟩
end Go.Proofs.YtaifphjenebgoaaDoor
/- Layer 15 (code): what of a program but its code may be: the calls. -/
set_option linter.unusedVariables false
set_option linter.unusedSimpArgs false
namespace Go.Proofs.YtaifphjenebgoaaDoor
open Go Go.Sx R1 K15
theorem eq_empty0 (x : ByteArray) : (ByteArray.toList x == ByteArray.toList (ByteArray.mk #[])) = decide (x.size = 0) := by
  obtain ⟨⟨l⟩⟩ := x
  refine (eq_str l []).trans ?_
  cases l <;> simp [ByteArray.size]
theorem cbool {b : Bool} {A B : Prop} (h1 : b = true → A) (h2 : b = false → B) : cond b A B := by
  cases b with
  | true => exact h1 rfl
  | false => exact h2 rfl
theorem right1_spec (w : World) (v : V) : CallsV Tryd.prog 37 #[.agg #[.int .u8 v.k, .int .i64 v.n, .string v.s]] w fun r w' => r = .bool (right v) ∧ Ext w w' := by
  refine value_Right.calls okay ?_
  unfold value_Right.W right
  intro g w1 f
  have b := f.blk
  have e := f.ext
  refine ⟨_, b.cell rfl, ?_⟩
  refine brd (fun h0 => ?_) (fun h0 => ?_)
  · rw [if_pos h0]
    refine ⟨_, b.cell rfl, brd (fun hn => ⟨_, b.cell rfl, ?_, e⟩) (fun hn => ⟨?_, e⟩)⟩
    · rw [eq_empty0]; simp [hn]
    · simp [hn]
  · rw [if_neg h0]
    refine brd (fun h1 => ?_) (fun h1 => ?_)
    · rw [if_pos h1]
      exact ⟨_, b.cell rfl, by rw [eq_empty0], e⟩
    · rw [if_neg h1]
      have two : ∀ (p : Prop) [Decidable p], p → (v.k = 2 ∨ v.k = 3) → (∃ x, w1.cell? (Addr.add ⟨g, 0, none⟩ 1) = some (.int .i64 x) ∧ cond (decide (x = 0)) (∃ x, w1.cell? (Addr.add ⟨g, 0, none⟩ 2) = some (.string x) ∧ (Value.bool (decide ((x.size : Int) ≤ 65536)) = .bool (decide (v.n = 0 ∧ v.s.size ≤ 65536)) ∧ Ext w w1)) (Value.bool false = .bool (decide (v.n = 0 ∧ v.s.size ≤ 65536)) ∧ Ext w w1)) := fun p _ _ _ => by
        refine ⟨_, b.cell rfl, brd (fun hn => ⟨_, b.cell rfl, ?_, e⟩) (fun hn => ⟨?_, e⟩)⟩
        · congr 1
          exact decide_eq_decide.2 ⟨fun h => ⟨hn, by omega⟩, fun h => by have := h.2; omega⟩
        · simp [hn]
      refine brd (fun h2 => ?_) (fun h2 => ?_)
      · rw [if_pos (.inl h2)]
        exact brd (fun _ => two _ h2 (.inl h2)) (fun h => absurd h2 h)
      · refine brd (fun h3 => ?_) (fun h3 => ⟨?_, e⟩)
        · rw [if_pos (.inr h3)]; exact two _ h3 (.inr h3)
        · rw [if_neg (fun h => h.elim h2 h3)]
theorem aggKnown_spec (w : World) (n : List UInt8) : CallsV Tryd.prog 71 #[.string (bs n)] w fun r w' => r = .bool (knownT n) ∧ w' = w := by
  refine agg_Known.calls okay ?_
  unfold agg_Known.W knownT
  have t : ∀ {p : Prop} [Decidable p], p → (Value.bool true = .bool (decide p) ∧ w = w) := fun h => ⟨by rw [decide_eq_true h], rfl⟩
  refine brS (fun h => brS (fun _ => t (.inl h)) (fun q => absurd h q)) (fun h1 => ?_)
  refine brS (fun h => brS (fun _ => t (.inr (.inl h))) (fun q => absurd h q)) (fun h2 => ?_)
  refine brS (fun h => brS (fun _ => t (.inr (.inr (.inl h)))) (fun q => absurd h q)) (fun h3 => ?_)
  refine brS (fun h => brS (fun _ => t (.inr (.inr (.inr (.inl h))))) (fun q => absurd h q)) (fun h4 => ?_)
  refine brS (fun h => brS (fun _ => t (.inr (.inr (.inr (.inr (.inl h)))))) (fun q => absurd h q)) (fun h5 => ?_)
  refine brS (fun h => brS (fun _ => t (.inr (.inr (.inr (.inr (.inr (.inl h))))))) (fun q => absurd h q)) (fun h6 => ?_)
  refine brS (fun h => t (.inr (.inr (.inr (.inr (.inr (.inr h))))))) (fun h7 => ⟨?_, rfl⟩)
  rw [decide_eq_false]
  rintro (h | h | h | h | h | h | h)
  · exact h1 h
  · exact h2 h
  · exact h3 h
  · exact h4 h
  · exact h5 h
  · exact h6 h
  · exact h7 h
theorem Reset_spec {w : World} {g : Nat} {n : ByteArray} {d : Bool} (hn : n.size ≠ 0) (b : Blk w g [.string n, .bool d, .int .i64 0, .int .u64 0, .int .u64 0, .int .u8 0, .int .i64 0, .string (ByteArray.mk #[]), .slice none 0 0, .map none]) :
    CallsV Tryd.prog 72 #[.pointer (some ⟨g, 0, none⟩)] w fun r w' => r = .tuple #[] ∧ Fr (fun k => k = g) w w' := by
  refine agg_Acc_Reset.calls okay ?_
  unfold agg_Acc_Reset.W
  refine cbool (fun h => by cases h) (fun _ => ?_)
  refine ⟨_, rfl, _, b.cell rfl, ?_⟩
  rw [eq_empty0]
  refine brd (fun h => absurd h hn) (fun _ => ?_)
  have bd := b.ext (Fr.drew NoB w)
  refine ⟨_, rfl, fun z => Ext w.drew z, .refl _ _, _, fun z hz => (bd.ext hz).cell rfl, _, rfl, _, fun z hz => (bd.ext hz).cell rfl, ?_⟩
  have e1 : Ext w.drew (w.drew.alloc (.map #[] 0)) := Fr.alloc NoB _ _
  refine ⟨_, _, makeMap_run _ _, e1, _, rfl, (bd.ext e1).stOK [_, _, _, _, _, _, _, _, _, _] 0 (by simp), ?_⟩
  rintro w2 rfl
  exact ⟨rfl, ((Fr.drew NoB w).ext e1).trans (Fr.setAll _ _ _) (fun _ _ h => h.elim) (fun _ _ h => h)⟩
theorem aggNew_spec (w : World) (n : List UInt8) (d : Bool) : CallsV Tryd.prog 41 #[.string (bs n), .bool d] w fun r w' => ∃ A, r = .tuple #[.pointer A, .int .i64 (newT n d)] ∧ Ext w w' := by
  refine agg_New.calls okay ?_
  unfold agg_New.W newT
  refine (aggKnown_spec w n).mono ?_
  rintro _ u ⟨rfl, hu⟩
  obtain rfl : w = u := hu.symm
  refine ⟨_, rfl, brnb (fun h => ⟨none, by rw [h]; rfl, .refl _ _⟩) (fun hk => ?_)⟩
  rw [if_pos hk]
  have hne : (bs n).size ≠ 0 := by
    intro h
    have : n = [] := List.eq_nil_of_length_eq_zero h
    subst this
    simp [knownT] at hk
  have mk : (if d && decide (n = [99, 111, 117, 110, 116, 42]) then (2 : Int) else 0) = 0 → ∀ g w1, Fresh w g w1 [.string (bs n), .bool d, .int .i64 0, .int .u64 0, .int .u64 0, .int .u8 0, .int .i64 0, .string (ByteArray.mk #[]), .slice none 0 0, .map none] 117 →
      CallsV Tryd.prog 72 #[.pointer (some ⟨g, 0, none⟩)] w1 fun v w' => v = .tuple #[] ∧ (∃ A, Value.tuple #[.pointer (some ⟨g, 0, none⟩), .int .i64 0] = .tuple #[.pointer A, .int .i64 (if d && decide (n = [99, 111, 117, 110, 116, 42]) then (2 : Int) else 0)] ∧ Ext w w') := by
    intro h0 g w1 f
    refine (Reset_spec hne f.blk).mono ?_
    rintro _ w2 ⟨rfl, hf⟩
    exact ⟨rfl, _, by rw [h0], f.ext.trans hf (fun _ _ h => h) (fun k hk e => by have := f.ge; omega)⟩
  refine cbool (fun hd => ?_) (fun hd => ?_)
  · refine brS (fun h => ⟨none, by rw [if_pos (by simp [hd, h])], .refl _ _⟩) (fun h => ?_)
    exact mk (if_neg (by simp [h]))
  · exact mk (if_neg (by simp [hd]))
theorem tests1 (w : World) : Tests Kd.str arg1 w (.func (.func 35) #[] #[]) longN := by
  intro u e a cs hr
  have hr : cs = [.string a] := hr
  subst hr
  refine ⟨_, _, _, rfl, by kernel_rfl, ?_⟩
  refine code_parts_2.calls okay ?_
  unfold code_parts_2.W
  exact ⟨by congr 1; exact decide_eq_decide.2 (by omega), .refl _ _⟩
theorem tests2 (w : World) : Tests KV argA w (.func (.func 36) #[] #[]) wrongV := by
  intro u e a cs hr
  have hr : cs = vc a := hr
  subst hr
  refine ⟨_, _, _, rfl, by kernel_rfl, ?_⟩
  refine code_parts_3.calls okay ?_
  unfold code_parts_3.W
  intro g w1 f
  refine ⟨_, f.blk.cell rfl, _, f.blk.cell rfl, _, f.blk.cell rfl, ?_⟩
  refine (right1_spec w1 a).mono ?_
  rintro _ w2 ⟨rfl, e2⟩
  exact ⟨_, rfl, rfl, f.ext.trans' e2⟩
theorem tests3 (w : World) : Tests KCur argA w (.func (.func 38) #[] #[]) badCur := by
  intro u e a cs hr
  have hr : cs = [.string a.name, .bool a.ix, .bool a.wr] := hr
  subst hr
  refine ⟨_, _, _, rfl, by kernel_rfl, ?_⟩
  refine code_parts_4.calls okay ?_
  unfold code_parts_4.W badCur
  intro g w1 f
  have b := f.blk
  refine ⟨_, b.cell rfl, ?_⟩
  rw [eq_empty0]
  refine brd (fun h => ⟨by rw [decide_eq_true h]; rfl, f.ext⟩) (fun h => ⟨_, b.cell rfl, ?_⟩)
  rw [decide_eq_false h, Bool.false_or]
  refine brd (fun h2 => ⟨by rw [decide_eq_true (by omega : 200 < a.name.size)]; rfl, f.ext⟩) (fun h2 => ⟨_, b.cell rfl, ?_⟩)
  rw [decide_eq_false (by omega : ¬ 200 < a.name.size), Bool.false_or]
  refine cbool (fun h3 => ⟨_, b.cell rfl, by rw [h3, Bool.true_and], f.ext⟩) (fun h3 => ⟨by rw [h3, Bool.false_and], f.ext⟩)
theorem tests5 (w : World) : Tests KTot argA w (.func (.func 40) #[] #[]) badTot := by
  intro u e a cs hr
  have hr : cs = [.string a.fn, .bool a.dist] := hr
  subst hr
  refine ⟨_, _, _, rfl, by kernel_rfl, ?_⟩
  refine code_parts_6.calls okay ?_
  unfold code_parts_6.W
  intro g w1 f
  refine ⟨_, f.blk.cell rfl, _, f.blk.cell rfl, ?_⟩
  refine (aggNew_spec w1 (sb a.fn) a.dist).mono ?_
  rintro _ w2 ⟨A, rfl, e2⟩
  exact ⟨_, _, rfl, rfl, f.ext.trans' e2⟩
theorem within_spec (w : World) (n low high : Int) : CallsV Tryd.prog 34 #[.int .i64 n, .int .i64 low, .int .i64 high] w fun r w' => r = .bool (within n low high) ∧ w' = w := by
  refine code_parts_1.calls okay ?_
  unfold code_parts_1.W within
  exact brd (fun h => ⟨by rw [decide_eq_true h, Bool.true_and], rfl⟩) (fun h => ⟨by rw [decide_eq_false h, Bool.false_and], rfl⟩)
theorem tests4 {w : World} {g1 : Nat} (hb : Blk w g1 [.func (.func 34) #[] #[]]) : Tests KSrt argA w (.func (.func 39) #[] #[.pointer (some ⟨g1, 0, none⟩)]) badSrt := by
  intro u e a cs hr
  obtain ⟨D, dc, rfl, hdc, hD⟩ := hr
  refine ⟨_, _, _, rfl, by kernel_rfl, ?_⟩
  refine code_parts_5.calls okay ?_
  unfold code_parts_5.W badSrt
  intro g w1 f
  have b := f.blk
  have e1 := e.trans' f.ext
  refine ⟨_, _, _, b.cell rfl, ?_⟩
  refine brd (fun h => ⟨by rw [decide_eq_true (by omega : 30 < a.desc.length)]; rfl, f.ext⟩) (fun h => ?_)
  rw [decide_eq_false (by omega : ¬ 30 < a.desc.length), Bool.false_or]
  refine ⟨_, (hb.ext e1).cell0 rfl, _, b.cell rfl, _, _, _, rfl, by kernel_rfl, ?_⟩
  refine (within_spec w1 a.cols 1 60).mono ?_
  rintro _ u1 ⟨rfl, hu⟩
  obtain rfl : w1 = u1 := hu.symm
  exact ⟨_, rfl, rfl, f.ext⟩
end Go.Proofs.YtaifphjenebgoaaDoor
/- Layer 15 (code): a program in memory; what of it but its code may be. -/
set_option linter.unusedVariables false
set_option linter.unusedSimpArgs false
namespace Go.Proofs.YtaifphjenebgoaaDoor
open Go Go.Sx R1 K15
/-- where a program's parts lie -/
structure PAd where
  nA : Option Addr
  nc : Nat
  cA : Option Addr
  cc : Nat
  uA : Option Addr
  uc : Nat
  sA : Option Addr
  sc : Nat
  tA : Option Addr
  tc : Nat
  dA : Option Addr
  dc : Nat
abbrev pcs (p : Prog) (a : PAd) : List Value := [.int .i64 p.ver, .int .i64 p.regs, .int .i64 p.binds, .slice a.nA p.names.length a.nc, .slice a.cA p.consts.length a.cc, .slice a.uA p.curs.length a.uc, .slice a.sA p.sorts.length a.sc, .slice a.tA p.tots.length a.tc, .slice a.dA p.code.length a.dc]
abbrev pagg (p : Prog) (a : PAd) : Value := .agg #[.int .i64 p.ver, .int .i64 p.regs, .int .i64 p.binds, .slice a.nA p.names.length a.nc, .slice a.cA p.consts.length a.cc, .slice a.uA p.curs.length a.uc, .slice a.sA p.sorts.length a.sc, .slice a.tA p.tots.length a.tc, .slice a.dA p.code.length a.dc]
/-- a program that is read -/
structure PIm (w : World) (p : Prog) (a : PAd) : Prop where
  names : Imm Kd.str NoB w a.nA p.names
  consts : Imm KV NoB w a.cA p.consts
  curs : Imm KCur NoB w a.uA p.curs
  sorts : Imm KSrt NoB w a.sA p.sorts
  tots : Imm KTot NoB w a.tA p.tots
  code : Imm KIns NoB w a.dA p.code
  l1 : p.names.length ≤ maxLen
  l2 : p.consts.length ≤ maxLen
  l3 : p.curs.length ≤ maxLen
  l4 : p.sorts.length ≤ maxLen
  l5 : p.tots.length ≤ maxLen
  l6 : p.code.length ≤ maxLen
  c6 : p.code.length ≤ a.dc
theorem PIm.ext {w w' : World} {p : Prog} {a : PAd} (h : PIm w p a) (e : Ext w w') : PIm w' p a :=
  ⟨h.names.ext KStr_pos e, h.consts.ext KV_pos e, h.curs.ext KCur_pos e, h.sorts.ext KSrt_pos e, h.tots.ext KTot_pos e, h.code.ext KIns_pos e, h.l1, h.l2, h.l3, h.l4, h.l5, h.l6, h.c6⟩
set_option maxRecDepth 10000 in
theorem parts_spec {w : World} {p : Prog} {a : PAd} (h : PIm w p a) : CallsV Tryd.prog 18 #[pagg p a] w fun r w' => r = .bool (partsP p) ∧ Ext w w' := by
  refine code_parts.calls okay ?_
  unfold code_parts.W
  intro g w1 f1
  intro g1 w2 f2
  refine ⟨rfl, rfl, f2.blk.stOK [_] 0 (by simp), ?_⟩
  intro w3 hw3
  have b3 : Blk w3 g1 [.func (.func 34) #[] #[]] := by rw [hw3]; exact Blk.setAll (o := 0) [_] 0 f2.blk
  have e3 : Ext w w3 := by rw [hw3]; exact Ext.setAll (f1.ext.trans' f2.ext) (Nat.le_trans f1.ext.size f2.ge) _ _
  have bp : Blk w3 g (pcs p a) := by
    rw [hw3]
    exact ((f1.blk.ext f2.ext).keep (Fr.setAll (g := g1) (o := 0) _ 0 w2) (fun e => by have := f2.ge; have := f1.blk.lt; omega))
  clear hw3
  have fin : ∀ (b : Bool) (u : World), b = partsP p → Ext w3 u → (Value.bool b = .bool (partsP p) ∧ Ext w u) := fun b u hb e => ⟨by rw [hb], e3.trans' e⟩
  refine ⟨_, b3.cell0 rfl, _, bp.cell rfl, _, _, _, rfl, by kernel_rfl, ?_⟩
  refine (within_spec w3 p.ver 1 1099511627776).mono ?_
  rintro _ u ⟨rfl, hu⟩
  obtain rfl : w3 = u := hu.symm
  refine ⟨_, rfl, cbool (fun h0 => ?_) (fun h0 => fin _ _ (by simp [partsP, h0]) (.refl _ _))⟩
  refine ⟨_, b3.cell0 rfl, _, bp.cell rfl, _, _, _, rfl, by kernel_rfl, ?_⟩
  refine (within_spec w3 p.regs 1 250).mono ?_
  rintro _ u ⟨rfl, hu⟩
  obtain rfl : w3 = u := hu.symm
  refine ⟨_, rfl, cbool (fun h1 => ?_) (fun h1 => fin _ _ (by simp [partsP, h0, h1]) (.refl _ _))⟩
  refine ⟨_, b3.cell0 rfl, _, bp.cell rfl, _, _, _, rfl, by kernel_rfl, ?_⟩
  refine (within_spec w3 p.binds 0 1000).mono ?_
  rintro _ u ⟨rfl, hu⟩
  obtain rfl : w3 = u := hu.symm
  refine ⟨_, rfl, cbool (fun h2 => ?_) (fun h2 => fin _ _ (by simp [partsP, h0, h1, h2]) (.refl _ _))⟩
  refine ⟨_, _, _, bp.cell rfl, brd (fun h3 => ?_) (fun h3 => fin _ _ (by simp [partsP, h0, h1, h2, show ¬ p.names.length ≤ 200 by omega]) (.refl _ _))⟩
  have h3 : p.names.length ≤ 200 := by omega
  refine ⟨_, _, _, bp.cell rfl, brd (fun h4 => ?_) (fun h4 => fin _ _ (by simp [partsP, h0, h1, h2, h3, show ¬ p.consts.length ≤ 1000 by omega]) (.refl _ _))⟩
  have h4 : p.consts.length ≤ 1000 := by omega
  refine ⟨_, _, _, bp.cell rfl, brd (fun h5 => ?_) (fun h5 => fin _ _ (by simp [partsP, h0, h1, h2, h3, h4, show ¬ p.curs.length ≤ 12 by omega]) (.refl _ _))⟩
  have h5 : p.curs.length ≤ 12 := by omega
  refine ⟨_, _, _, bp.cell rfl, brd (fun h6 => ?_) (fun h6 => fin _ _ (by simp [partsP, h0, h1, h2, h3, h4, h5, show ¬ p.sorts.length ≤ 6 by omega]) (.refl _ _))⟩
  have h6 : p.sorts.length ≤ 6 := by omega
  refine ⟨_, _, _, bp.cell rfl, brd (fun h7 => ?_) (fun h7 => fin _ _ (by simp [partsP, h0, h1, h2, h3, h4, h5, h6, show ¬ p.tots.length ≤ 60 by omega]) (.refl _ _))⟩
  have h7 : p.tots.length ≤ 60 := by omega
  have e30 : Ext w3 w3 := .refl _ _
  refine ⟨_, _, _, (bp.ext e30).cell rfl, ?_⟩
  refine (contains_string rfl (h.ext (e3.trans' e30)).names h.l1 (tests1 w3)).mono ?_
  rintro _ v1 ⟨rfl, q1⟩
  have e31 := e30.trans' q1
  refine ⟨_, rfl, brnb (fun k0 => ?_) (fun k0 => fin _ _ (by simp only [partsP, k0]; simp [h0, h1, h2, h3, h4, h5, h6, h7]) e31)⟩
  refine ⟨_, _, _, (bp.ext e31).cell rfl, ?_⟩
  refine (contains_api_Value rfl (h.ext (e3.trans' e31)).consts h.l2 (tests2 v1)).mono ?_
  rintro _ v2 ⟨rfl, q2⟩
  have e32 := e31.trans' q2
  refine ⟨_, rfl, brnb (fun k1 => ?_) (fun k1 => fin _ _ (by simp only [partsP, k1]; simp [h0, h1, h2, h3, h4, h5, h6, h7, k0]) e32)⟩
  refine ⟨_, _, _, (bp.ext e32).cell rfl, ?_⟩
  refine (contains_api_Cur rfl (h.ext (e3.trans' e32)).curs h.l3 (tests3 v2)).mono ?_
  rintro _ v3 ⟨rfl, q3⟩
  have e33 := e32.trans' q3
  refine ⟨_, rfl, brnb (fun k2 => ?_) (fun k2 => fin _ _ (by simp only [partsP, k2]; simp [h0, h1, h2, h3, h4, h5, h6, h7, k0, k1]) e33)⟩
  refine ⟨_, _, _, (bp.ext e33).cell rfl, ?_⟩
  refine (contains_api_Sort rfl (h.ext (e3.trans' e33)).sorts h.l4 (tests4 (b3.ext e33))).mono ?_
  rintro _ v4 ⟨rfl, q4⟩
  have e34 := e33.trans' q4
  refine ⟨_, rfl, brnb (fun k3 => ?_) (fun k3 => fin _ _ (by simp only [partsP, k3]; simp [h0, h1, h2, h3, h4, h5, h6, h7, k0, k1, k2]) e34)⟩
  refine ⟨_, _, _, (bp.ext e34).cell rfl, ?_⟩
  refine (contains_api_Acc rfl (h.ext (e3.trans' e34)).tots h.l5 (tests5 v4)).mono ?_
  rintro _ v5 ⟨rfl, q5⟩
  have e35 := e34.trans' q5
  exact ⟨_, rfl, fin _ _ (by simp [partsP, h0, h1, h2, h3, h4, h5, h6, h7, k0, k1, k2, k3]) e35⟩
end Go.Proofs.YtaifphjenebgoaaDoor
/- Layer 15 (code): the closures of field. -/
set_option linter.unusedVariables false
set_option linter.unusedSimpArgs false
namespace Go.Proofs.YtaifphjenebgoaaDoor
open Go Go.Sx R1 K15
abbrev bptr (g : Nat) : Value := .pointer (some ⟨g, 0, none⟩)
theorem below1_spec {u : World} {g2 g : Nat} {n high : Int} (bn : Blk u g2 [.int .i64 n]) (bh : Blk u g [.int .i64 high]) :
    CallsV Tryd.prog 48 #[bptr g2, bptr g] u fun r w' => r = .bool (below n high) ∧ Ext u w' := by
  refine code_field_1_1.calls okay ?_
  unfold code_field_1_1.W
  refine ⟨_, bn.cell0 rfl, brd (fun h => ?_) (fun h => ?_)⟩
  · exact ⟨_, bn.cell0 rfl, _, bh.cell0 rfl, by simp [below, h], .refl _ _⟩
  · exact ⟨by simp [below, h], .refl _ _⟩
theorem below_spec (u : World) (g2 : Nat) (high : Int) :
    CallsV Tryd.prog 47 #[.int .i64 high, bptr g2] u fun r w' => ∃ g, r = .func (.func 48) #[] #[bptr g2, bptr g] ∧ Blk w' g [.int .i64 high] ∧ Ext u w' := by
  refine code_field_1.calls okay ?_
  unfold code_field_1.W
  intro g w' f
  exact ⟨g, rfl, f.blk, f.ext⟩
/-- what field's closures stand on -/
structure FCtx (w : World) (p : Prog) (a : PAd) (t n : Int) (g g1 g2 g3 : Nat) : Prop where
  P : PIm w p a
  bp : Blk w g (pcs p a)
  bt : Blk w g1 [.int .i64 t]
  bn : Blk w g2 [.int .i64 n]
  bb : Blk w g3 [.func (.func 47) #[] #[bptr g2]]
theorem FCtx.ext {w w' : World} {p : Prog} {a : PAd} {t n : Int} {g g1 g2 g3 : Nat} (h : FCtx w p a t n g g1 g2 g3) (e : Ext w w') : FCtx w' p a t n g g1 g2 g3 :=
  ⟨h.P.ext e, h.bp.ext e, h.bt.ext e, h.bn.ext e, h.bb.ext e⟩
section
variable {w : World} {p : Prog} {a : PAd} {t n : Int} {g g1 g2 g3 : Nat}
theorem field3_spec (h : FCtx w p a t n g g1 g2 g3) : CallsV Tryd.prog 51 #[bptr g2] w fun r w' => r = .bool (decide (n = 0)) ∧ Ext w w' := by
  refine code_field_3.calls okay ?_
  unfold code_field_3.W
  exact ⟨_, h.bn.cell0 rfl, rfl, .refl _ _⟩
theorem field4_spec (h : FCtx w p a t n g g1 g2 g3) : CallsV Tryd.prog 52 #[bptr g2, bptr g1, bptr g] w fun r w' => r = .bool (decide (t < n) && decide (n < p.code.length)) ∧ Ext w w' := by
  refine code_field_4.calls okay ?_
  unfold code_field_4.W
  refine ⟨_, h.bn.cell0 rfl, _, h.bt.cell0 rfl, brd (fun hq => ?_) (fun hq => ?_)⟩
  · exact ⟨_, h.bn.cell0 rfl, _, _, _, h.bp.cell rfl, by simp [hq], .refl _ _⟩
  · exact ⟨by simp [hq], .refl _ _⟩
theorem field5_spec (h : FCtx w p a t n g g1 g2 g3) : CallsV Tryd.prog 53 #[bptr g2, bptr g1] w fun r w' => r = .bool (decide (1 ≤ n) && decide (n ≤ t)) ∧ Ext w w' := by
  refine code_field_5.calls okay ?_
  unfold code_field_5.W
  refine ⟨_, h.bn.cell0 rfl, brd (fun hq => ?_) (fun hq => ?_)⟩
  · exact ⟨_, h.bn.cell0 rfl, _, h.bt.cell0 rfl, by simp [hq], .refl _ _⟩
  · exact ⟨by simp [hq], .refl _ _⟩
theorem field6_spec (h : FCtx w p a t n g g1 g2 g3) : CallsV Tryd.prog 54 #[bptr g2, bptr g] w fun r w' => r = .bool (decide (1 ≤ n) && decide (n ≤ p.regs)) ∧ Ext w w' := by
  refine code_field_6.calls okay ?_
  unfold code_field_6.W
  refine ⟨_, h.bn.cell0 rfl, brd (fun hq => ?_) (fun hq => ?_)⟩
  · exact ⟨_, h.bn.cell0 rfl, _, h.bp.cell rfl, by simp [hq], .refl _ _⟩
  · exact ⟨by simp [hq], .refl _ _⟩
theorem field7_spec (u : World) (c : Cur) : CallsV Tryd.prog 55 #[.agg #[.string c.name, .bool c.ix, .bool c.wr]] u fun r w' => r = .bool c.ix ∧ Ext u w' := by
  refine code_field_7.calls okay ?_
  unfold code_field_7.W
  intro g w' f
  exact ⟨_, f.blk.cell rfl, rfl, f.ext⟩
theorem field8_spec (u : World) (c : Cur) : CallsV Tryd.prog 56 #[.agg #[.string c.name, .bool c.ix, .bool c.wr]] u fun r w' => r = .bool (!c.ix) ∧ Ext u w' := by
  refine code_field_8.calls okay ?_
  unfold code_field_8.W
  intro g w' f
  exact ⟨_, f.blk.cell rfl, rfl, f.ext⟩
theorem field9_spec (u : World) (c : Cur) : CallsV Tryd.prog 57 #[.agg #[.string c.name, .bool c.ix, .bool c.wr]] u fun r w' => r = .bool (!c.ix && c.wr) ∧ Ext u w' := by
  refine code_field_9.calls okay ?_
  unfold code_field_9.W
  intro g w' f
  refine ⟨_, f.blk.cell rfl, ?_⟩
  cases hx : c.ix with
  | true => exact ⟨by simp, f.ext⟩
  | false => exact ⟨_, f.blk.cell rfl, by simp, f.ext⟩
/-- what is asked of a cursor -/
def AsksC (f : FuncId) (q : Cur → Bool) : Prop := bodied Tryd.prog f = true ∧ ∀ (u : World) (c : Cur), CallsV Tryd.prog f #[.agg #[.string c.name, .bool c.ix, .bool c.wr]] u fun r w' => r = .bool (q c) ∧ Ext u w'
theorem cursor_spec (u : World) (f : FuncId) :
    CallsV Tryd.prog 49 #[.func (.func f) #[] #[], bptr g3, bptr g, bptr g2] u fun r w' => ∃ k, r = .func (.func 50) #[] #[bptr g3, bptr g, bptr k, bptr g2] ∧ Blk w' k [.func (.func f) #[] #[]] ∧ Ext u w' := by
  refine code_field_2.calls okay ?_
  unfold code_field_2.W
  refine ⟨rfl, fun k w' f => ?_⟩
  exact ⟨k, rfl, f.blk, f.ext⟩
theorem cursor1_spec (h : FCtx w p a t n g g1 g2 g3) {f : FuncId} {q : Cur → Bool} (hq : AsksC f q) {k : Nat} (bk : Blk w k [.func (.func f) #[] #[]]) :
    CallsV Tryd.prog 50 #[bptr g3, bptr g, bptr k, bptr g2] w fun r w' => r = .bool (below n p.curs.length && q (curAt p n)) ∧ Ext w w' := by
  refine code_field_2_1.calls okay ?_
  unfold code_field_2_1.W
  refine ⟨fun u => Ext w u, Fr.drew NoB w, _, fun u e => (h.ext e).bb.cell0 rfl, _, _, _, fun u e => (h.ext e).bp.cell rfl, _, _, _, rfl, by kernel_rfl, ?_⟩
  refine (below_spec _ g2 p.curs.length).mono ?_
  rintro _ u ⟨k1, rfl, bk1, e1⟩
  have e1 : Ext w u := (Fr.drew NoB w).ext e1
  refine ⟨_, rfl, e1, _, _, _, rfl, by kernel_rfl, ?_⟩
  refine (below1_spec (h.ext e1).bn bk1).mono ?_
  rintro _ u2 ⟨rfl, e2⟩
  have e2 := e1.trans' e2
  refine ⟨_, rfl, e2, ?_⟩
  cases hb : below n p.curs.length with
  | false => rw [cond_false]; exact ⟨rfl, e2⟩
  | true =>
    rw [cond_true]
    simp only [below, Bool.and_eq_true, decide_eq_true_eq] at hb
    have hlt : n.toNat < p.curs.length := by omega
    obtain ⟨ad, hA, cs, hrep, hc⟩ := h.P.curs.get1 hlt
    have hcs : cs = [.string p.curs[n.toNat].name, .bool p.curs[n.toNat].ix, .bool p.curs[n.toNat].wr] := hrep
    subst hcs
    have hcur : curAt p n = p.curs[n.toNat] := by simp [curAt, hlt]
    have cell : ∀ (u : World), Ext w u → ∀ (j : Nat) (v : Value), [Value.string p.curs[n.toNat].name, .bool p.curs[n.toNat].ix, .bool p.curs[n.toNat].wr][j]? = some v → u.cell? ((ad.add (n.toNat * 3)).add j) = some v := fun u e j v hv => by
      rw [add_add]; exact e.cell (fun h => h) (hc j v hv)
    refine ⟨fun u => Ext w u, e2, _, fun u e => (bk.ext e).cell0 rfl, _, _, _, fun u e => (h.ext e).bp.cell rfl, _, fun u e => (h.ext e).bn.cell0 rfl, ad, hA, ⟨hb.1, hb.2⟩, _, fun u e => cell u e 0 _ rfl, _, fun u e => cell u e 1 _ rfl, _, fun u e => cell u e 2 _ rfl, f, _, _, rfl, hq.1, ?_⟩
    refine (hq.2 u2 p.curs[n.toNat]).mono ?_
    rintro _ u3 ⟨rfl, e3⟩
    have e3 := e2.trans' e3
    exact ⟨_, rfl, e3, e3, by rw [hcur]; rfl, e3⟩
theorem field10_spec (h : FCtx w p a t n g g1 g2 g3) : CallsV Tryd.prog 58 #[bptr g3, bptr g, bptr g2] w fun r w' => r = .bool (below n p.consts.length && decide ((constAt p n).k = 2)) ∧ Ext w w' := by
  refine code_field_10.calls okay ?_
  unfold code_field_10.W
  refine ⟨_, h.bb.cell0 rfl, _, _, _, h.bp.cell rfl, _, _, _, rfl, by kernel_rfl, ?_⟩
  refine (below_spec _ g2 p.consts.length).mono ?_
  rintro _ u ⟨k1, rfl, bk1, e1⟩
  refine ⟨_, rfl, _, _, _, rfl, by kernel_rfl, ?_⟩
  refine (below1_spec (h.ext e1).bn bk1).mono ?_
  rintro _ u2 ⟨rfl, e2⟩
  have e2 := e1.trans' e2
  refine ⟨_, rfl, ?_⟩
  cases hb : below n p.consts.length with
  | false => rw [cond_false]; exact ⟨rfl, e2⟩
  | true =>
    rw [cond_true]
    simp only [below, Bool.and_eq_true, decide_eq_true_eq] at hb
    have hlt : n.toNat < p.consts.length := by omega
    obtain ⟨ad, hA, cs, hrep, hc⟩ := h.P.consts.get1 hlt
    have hcs : cs = vc p.consts[n.toNat] := hrep
    subst hcs
    have hcur : constAt p n = p.consts[n.toNat] := by simp [constAt, hlt]
    exact ⟨_, _, _, (h.ext e2).bp.cell rfl, _, (h.ext e2).bn.cell0 rfl, ad, hA, ⟨hb.1, hb.2⟩, _, by rw [add_add]; exact e2.cell (fun h => h) (hc 0 _ rfl), by rw [hcur]; rfl, e2⟩
end
end Go.Proofs.YtaifphjenebgoaaDoor
/- Layer 15 (code): may a number be what a letter says. (Printed in part by gen7.py.) -/
set_option linter.unusedVariables false
set_option linter.unusedSimpArgs false
namespace Go.Proofs.YtaifphjenebgoaaDoor
open Go Go.Sx R1 K15
theorem getM_setM {α : Type} [DecidableEq α] (a : α) (v : Value) (c : α) : ∀ l : List (α × Value), getM (setM l a v) c = if c = a then some v else getM l c
  | [] => by simp only [setM, getM]
  | (x, u) :: l => by
    by_cases h : a = x
    · subst h
      by_cases hc : c = a <;> simp [setM, getM, hc]
    · rw [setM, if_neg h, getM, getM, getM_setM a v c l]
      by_cases hc : c = x
      · subst hc
        rw [if_pos rfl, if_pos rfl, if_neg (fun e => h e.symm)]
      · rw [if_neg hc, if_neg hc]
/-- a function value that answers b, as long as one block stays as it is -/
def AnsF (w1 u : World) (v : Value) (b : Bool) : Prop :=
  ∃ (fid : FuncId) (captured : Array Value) (k : Nat) (cur : List Value), v = .func (.func fid) #[] captured ∧ bodied Tryd.prog fid = true ∧ Blk u k cur ∧
    ∀ u', Ext w1 u' → Blk u' k cur → CallsV Tryd.prog fid captured u' fun r w' => r = .bool b ∧ Ext u' w'
theorem AnsF.keep {w1 u u' : World} {v : Value} {b : Bool} {S : Nat → Prop} (h : AnsF w1 u v b) (f : Fr S u u') (hS : ∀ k cur, Blk u k cur → ¬ S k) : AnsF w1 u' v b := by
  obtain ⟨fid, cap, k, cur, h1, h2, h3, h4⟩ := h
  exact ⟨fid, cap, k, cur, h1, h2, h3.keep f (hS k cur h3), h4⟩
theorem AnsF.ext {w1 u u' : World} {v : Value} {b : Bool} (h : AnsF w1 u v b) (e : Ext u u') : AnsF w1 u' v b := h.keep e fun _ _ _ h => h
abbrev kf : Int → Value := fun a => Value.int .u8 a
theorem mapk_apart {u : World} {M : Nat} {l : List (Int × Value)} (h : MapK kf u M l) (k : Nat) (cur : List Value) (hb : Blk u k cur) : ¬ (k = M) := by
  rintro rfl
  obtain ⟨es, c, h1, _⟩ := h
  obtain ⟨e, h2⟩ := hb
  rw [h1] at h2; cases h2
/-- what is so behind each of the operations -/
def GF (w1 : World) (ans : Int → Bool) (calls : List (Nat × Nat × Int)) (ins : List (Nat × Int)) (D : Nat → Bool) (ν : Nat → Value) (u : World) : Prop :=
  Ext w1 u ∧ (∀ p ∈ calls, D p.1 = true → AnsF w1 u (ν p.2.1) (ans p.2.2)) ∧ (∀ p ∈ ins, D p.1 = true → D 0 = true) ∧
  (D 0 = true → ∃ M l, ν 14 = .map (some M) ∧ w1.heap.size ≤ M ∧ MapK kf u M l ∧ (∀ c v, getM l c = some v → AnsF w1 u v (ans c)) ∧ ∀ p ∈ ins, D p.1 = true → (getM l p.2).isSome = true)
theorem setD_ne {D : Nat → Bool} {i j : Nat} (h : j ≠ i) : setD D i j = D j := by
  have : Nat.beq j i = false := by cases hb : Nat.beq j i with | false => rfl | true => exact absurd (Nat.eq_of_beq_eq_true hb) h
  simp [setD, this]
theorem setD_eq {D : Nat → Bool} {i : Nat} : setD D i i = true := by simp [setD]
theorem setD_case {D : Nat → Bool} {i j : Nat} (h : setD D i j = true) : j = i ∨ (j ≠ i ∧ D j = true) := by
  by_cases hj : j = i
  · exact .inl hj
  · rw [setD_ne hj] at h; exact .inr ⟨hj, h⟩
theorem setNuV_ne {ν : Nat → Value} {d t : Nat} {v : Value} (h : t ≠ d) : setNuV ν (some d) v t = ν t := by
  have : Nat.beq t d = false := by cases hb : Nat.beq t d with | false => rfl | true => exact absurd (Nat.eq_of_beq_eq_true hb) h
  simp [setNuV, this]
theorem setNuV_eq {ν : Nat → Value} {d : Nat} {v : Value} : setNuV ν (some d) v d = v := by simp [setNuV]
theorem keyLet : KeyF Tryd.prog 5 (.int .u8) kf := keyInt (by kernel_rfl)
theorem mapLet : und Tryd.prog 96 = some (.map 5 33) := by kernel_rfl
def tcalls : List (Nat × Nat × Int) := [(6, 19, 114), (12, 24, 107), (17, 28, 98), (23, 33, 115), (29, 38, 116), (35, 43, 99), (38, 45, 50), (41, 47, 49), (44, 49, 102), (47, 51, 120), (56, 56, 105), (59, 58, 108), (62, 60, 119)]
def tins : List (Nat × Int) := [(2, 45), (7, 114), (13, 107), (18, 98), (24, 115), (30, 116), (36, 99), (39, 50), (42, 49), (45, 102), (48, 120), (50, 106), (52, 110), (54, 109), (57, 105), (60, 108), (63, 119), (65, 113)]
section
variable {w1 : World} {ans : Int → Bool} {D : Nat → Bool} {ν : Nat → Value} {u : World}
theorem tc_ne : ∀ p ∈ tcalls, p.1 ≠ 0 ∧ p.2.1 ≠ 14 := by decide
theorem ti_ne : ∀ p ∈ tins, p.1 ≠ 0 := by decide
theorem G_map (h : GF w1 ans tcalls tins D ν u) (h0 : D 0 = false) : GF w1 ans tcalls tins (setD D 0) (setNuV ν (some 14) (.map (some u.heap.size))) (u.alloc (.map #[] 0)) := by
  have e : Ext u (u.alloc (.map #[] 0)) := Fr.alloc NoB _ _
  refine ⟨h.1.trans' e, fun p hp hd => ?_, fun _ _ _ => setD_eq, fun _ => ⟨_, [], setNuV_eq, h.1.size, MapK.new _ _, fun c v hv => (by cases hv), fun p hp hd => ?_⟩⟩
  · obtain ⟨n1, n2⟩ := tc_ne p hp
    rw [setD_ne n1] at hd
    rw [setNuV_ne n2]
    exact (h.2.1 p hp hd).ext e
  · rw [setD_ne (ti_ne p hp)] at hd
    have := h.2.2.1 p hp hd
    rw [h0] at this; cases this
theorem G_call {i t : Nat} {c : Int} (hm : (∀ p ∈ tcalls, (p.1 = i → p.2.1 = t) ∧ (p.2.1 = t → p.2.2 = c)) ∧ (∀ p ∈ tins, p.1 ≠ i)) (hn : i ≠ 0 ∧ t ≠ 14) (h : GF w1 ans tcalls tins D ν u) {u' : World} (e : Ext u u') {v : Value} (ha : AnsF w1 u' v (ans c)) :
    GF w1 ans tcalls tins (setD D i) (setNuV ν (some t) v) u' := by
  refine ⟨h.1.trans' e, fun p hp hd => ?_, fun p hp hd => ?_, fun hd => ?_⟩
  · obtain ⟨m1, m2⟩ := hm.1 p hp
    by_cases ht : p.2.1 = t
    · rw [ht, setNuV_eq, m2 ht]; exact ha
    · rw [setNuV_ne ht]
      rcases setD_case hd with hi | ⟨_, hd⟩
      · exact absurd (m1 hi) ht
      · exact (h.2.1 p hp hd).ext e
  · rw [setD_ne (hm.2 p hp)] at hd
    rw [setD_ne (fun e => hn.1 e.symm)]
    exact h.2.2.1 p hp hd
  · rw [setD_ne (fun e => hn.1 e.symm)] at hd
    obtain ⟨M, l, h1, h2, h3, h4, h5⟩ := h.2.2.2 hd
    refine ⟨M, l, by rw [setNuV_ne (fun e => hn.2 e.symm)]; exact h1, h2, h3.ext e, fun c v hv => (h4 c v hv).ext e, fun p hp hd => h5 p hp ?_⟩
    rw [setD_ne (hm.2 p hp)] at hd; exact hd
theorem G_ins {i : Nat} {c : Int} (hm : (∀ p ∈ tins, p.1 = i → p.2 = c) ∧ ∀ p ∈ tcalls, p.1 ≠ i) (hn : i ≠ 0) (h : GF w1 ans tcalls tins D ν u) (h0 : D 0 = true) {v : Value} (ha : AnsF w1 u v (ans c)) :
    ∃ M, ν 14 = .map M ∧ ∃ w', RunsTo Tryd.prog (Instr.mapUpdate 96 (.map M) (.int .u8 c) v) u () w' ∧ GF w1 ans tcalls tins (setD D i) (setNuV ν none undef) w' := by
  obtain ⟨M, l, h1, h2, h3, h4, h5⟩ := h.2.2.2 h0
  obtain ⟨w', hr, hm', hf⟩ := h3.update keyLet mapLet c v
  have hap := mapk_apart h3
  refine ⟨_, h1, w', hr, h.1.trans hf (fun _ _ h => h) (fun k hk e => absurd hk (by omega)), fun p hp hd => ?_, fun p hp hd => ?_, fun _ => ⟨M, _, h1, h2, hm', fun c' v' hv => ?_, fun p hp hd => ?_⟩⟩
  · rw [setD_ne (hm.2 p hp)] at hd
    exact (h.2.1 p hp hd).keep hf hap
  · rw [setD_ne (fun e => hn e.symm)]; exact h0
  · rw [getM_setM] at hv
    split at hv
    · rename_i e; cases hv; subst e; exact ha.keep hf hap
    · exact (h4 c' v' hv).keep hf hap
  · rw [getM_setM]
    by_cases hpc : p.2 = c
    · rw [if_pos hpc]; rfl
    · rw [if_neg hpc]
      rcases setD_case hd with hi | ⟨_, hd⟩
      · exact absurd (hm.1 p hp hi) hpc
      · exact h5 p hp hd
end
section
variable {w1 : World} {p : Prog} {a : PAd} {t n : Int} {g g1 g2 g3 : Nat}
theorem ans_below (hc : FCtx w1 p a t n g g1 g2 g3) {u : World} (e : Ext w1 u) {k : Nat} {high : Int} (bk : Blk u k [.int .i64 high]) {b : Bool} (hb : b = below n high) :
    AnsF w1 u (.func (.func 48) #[] #[bptr g2, bptr k]) b :=
  ⟨_, _, k, _, rfl, by kernel_rfl, bk, fun u' e' b' => by rw [hb]; exact below1_spec (hc.ext e').bn b'⟩
theorem ans_cur (hc : FCtx w1 p a t n g g1 g2 g3) {u : World} (e : Ext w1 u) {f : FuncId} {q : Cur → Bool} (hq : AsksC f q) {k : Nat} (bk : Blk u k [.func (.func f) #[] #[]]) {b : Bool} (hb : b = (below n p.curs.length && q (curAt p n))) :
    AnsF w1 u (.func (.func 50) #[] #[bptr g3, bptr g, bptr k, bptr g2]) b :=
  ⟨_, _, k, _, rfl, by kernel_rfl, bk, fun u' e' b' => by rw [hb]; exact cursor1_spec (hc.ext e') hq b'⟩
end
theorem letters_in : ∀ l ∈ letters, ∃ q ∈ tins, q.2 = l := by decide
set_option maxRecDepth 10000 in
theorem field_spec {w : World} {p : Prog} {a : PAd} (h : PIm w p a) (t l n : Int) (hl : l ∈ letters) :
    CallsV Tryd.prog 20 #[pagg p a, .int .i64 t, .int .u8 l, .int .i64 n] w fun r w' => r = .bool (fieldP p t l n) ∧ Ext w w' := by
  refine code_field.calls okay ?_
  unfold code_field.W
  intro g wa fa g1 wb fb g2 wc fc g3 wd fd
  refine ⟨rfl, rfl, fd.blk.stOK [_] 0 (by simp), fun w1 hw1 => ?_⟩
  have ed : Ext wc wd := fd.ext
  have hc : FCtx w1 p a t n g g1 g2 g3 := by
    have k1 : ∀ {k : Nat} {cur : List Value}, Blk wc k cur → Blk w1 k cur := fun {k cur} b => by
      rw [hw1]
      exact (b.ext ed).keep (Fr.setAll (g := g3) (o := 0) _ 0 wd) (fun e => by have := fd.ge; have := b.lt; omega)
    refine ⟨?_, k1 ((fa.blk.ext fb.ext).ext fc.ext), k1 (fb.blk.ext fc.ext), k1 fc.blk, ?_⟩
    · rw [hw1]
      exact h.ext (Ext.setAll (((fa.ext.trans' fb.ext).trans' fc.ext).trans' ed) (Nat.le_trans (((fa.ext.trans' fb.ext).trans' fc.ext).size) fd.ge) _ _)
    · rw [hw1]; exact Blk.setAll (o := 0) [_] 0 fd.blk
  have e0 : Ext w w1 := by rw [hw1]; exact Ext.setAll (((fa.ext.trans' fb.ext).trans' fc.ext).trans' ed) (Nat.le_trans (((fa.ext.trans' fb.ext).trans' fc.ext).size) fd.ge) _ _
  clear hw1 fa fb fc fd ed
  refine ⟨fun u => Ext w1 u, Fr.drew NoB w1, _, fun u e => (hc.ext e).bb.cell0 rfl, _, fun u e => (hc.ext e).bp.cell rfl, _, fun u e => (hc.ext e).bb.cell0 rfl, _, _, _, fun u e => (hc.ext e).bp.cell rfl, _, fun u e => (hc.ext e).bb.cell0 rfl, _, fun u e => (hc.ext e).bp.cell rfl,
    _, fun u e => (hc.ext e).bb.cell0 rfl, _, _, _, fun u e => (hc.ext e).bp.cell rfl, _, fun u e => (hc.ext e).bb.cell0 rfl, _, _, _, fun u e => (hc.ext e).bp.cell rfl, _, fun u e => (hc.ext e).bb.cell0 rfl, _, _, _, fun u e => (hc.ext e).bp.cell rfl,
    _, fun u e => (hc.ext e).bb.cell0 rfl, _, fun u e => (hc.ext e).bb.cell0 rfl, _, fun u e => (hc.ext e).bb.cell0 rfl, _, fun u e => (hc.ext e).bb.cell0 rfl, GF w1 (fun c => fieldP p t c n) tcalls tins, ?_, fun D ν u hG => hG.1, ?_, ?_⟩
  · intro ν
    exact ⟨Fr.drew NoB w1, fun _ _ h => (by cases h), fun _ _ h => (by cases h), fun h => (by cases h)⟩
  · refine ⟨?_, ?_, ?_, ?_, ?_, ?_, ?_, ?_, ?_, ?_, ?_, ?_, ?_, ?_, ?_, ?_, ?_, ?_, ?_, ?_, ?_, ?_, ?_, ?_, ?_, ?_, ?_, ?_, ?_, ?_, ?_, ?_⟩
    · intro D ν u hG h0
      exact ⟨_, _, makeMap_run _ _, G_map hG h0⟩
    · intro D ν u hG _ h0
      exact G_ins (i := 2) (c := 45) (by decide) (by decide) hG h0 ⟨_, _, _, _, rfl, by kernel_rfl, (hc.ext hG.1).bn, fun u e _ => by
        refine (field3_spec (hc.ext e)).mono ?_
        rintro r w' ⟨rfl, e1⟩
        exact ⟨by simp [fieldP], e1⟩⟩
    · intro D ν u hG h0
      refine ⟨_, _, _, rfl, by kernel_rfl, (below_spec u g2 _).mono ?_⟩
      rintro _ u1 ⟨k, rfl, bk, e⟩
      exact ⟨_, rfl, G_call (i := 6) (t := 19) (c := 114) (by decide) (by decide) hG e (ans_below hc (hG.1.trans' e) bk (by simp [fieldP]))⟩
    · intro D ν u hG _ h0 h1
      exact G_ins (i := 7) (c := 114) (by decide) (by decide) hG h0 (hG.2.1 (6, 19, 114) (by decide) h1)
    · intro D ν u hG h0 _
      refine ⟨_, _, _, rfl, by kernel_rfl, (below_spec u g2 _).mono ?_⟩
      rintro _ u1 ⟨k, rfl, bk, e⟩
      exact ⟨_, rfl, G_call (i := 12) (t := 24) (c := 107) (by decide) (by decide) hG e (ans_below hc (hG.1.trans' e) bk (by simp [fieldP]))⟩
    · intro D ν u hG _ h0 h1
      exact G_ins (i := 13) (c := 107) (by decide) (by decide) hG h0 (hG.2.1 (12, 24, 107) (by decide) h1)
    · intro D ν u hG h0 _
      refine ⟨_, _, _, rfl, by kernel_rfl, (below_spec u g2 _).mono ?_⟩
      rintro _ u1 ⟨k, rfl, bk, e⟩
      exact ⟨_, rfl, G_call (i := 17) (t := 28) (c := 98) (by decide) (by decide) hG e (ans_below hc (hG.1.trans' e) bk (by simp [fieldP]))⟩
    · intro D ν u hG _ h0 h1
      exact G_ins (i := 18) (c := 98) (by decide) (by decide) hG h0 (hG.2.1 (17, 28, 98) (by decide) h1)
    · intro D ν u hG h0 _
      refine ⟨_, _, _, rfl, by kernel_rfl, (below_spec u g2 _).mono ?_⟩
      rintro _ u1 ⟨k, rfl, bk, e⟩
      exact ⟨_, rfl, G_call (i := 23) (t := 33) (c := 115) (by decide) (by decide) hG e (ans_below hc (hG.1.trans' e) bk (by simp [fieldP]))⟩
    · intro D ν u hG _ h0 h1
      exact G_ins (i := 24) (c := 115) (by decide) (by decide) hG h0 (hG.2.1 (23, 33, 115) (by decide) h1)
    · intro D ν u hG h0 _
      refine ⟨_, _, _, rfl, by kernel_rfl, (below_spec u g2 _).mono ?_⟩
      rintro _ u1 ⟨k, rfl, bk, e⟩
      exact ⟨_, rfl, G_call (i := 29) (t := 38) (c := 116) (by decide) (by decide) hG e (ans_below hc (hG.1.trans' e) bk (by simp [fieldP]))⟩
    · intro D ν u hG _ h0 h1
      exact G_ins (i := 30) (c := 116) (by decide) (by decide) hG h0 (hG.2.1 (29, 38, 116) (by decide) h1)
    · intro D ν u hG h0 _
      refine ⟨_, _, _, rfl, by kernel_rfl, (below_spec u g2 _).mono ?_⟩
      rintro _ u1 ⟨k, rfl, bk, e⟩
      exact ⟨_, rfl, G_call (i := 35) (t := 43) (c := 99) (by decide) (by decide) hG e (ans_below hc (hG.1.trans' e) bk (by simp [fieldP]))⟩
    · intro D ν u hG _ h0 h1
      exact G_ins (i := 36) (c := 99) (by decide) (by decide) hG h0 (hG.2.1 (35, 43, 99) (by decide) h1)
    · intro D ν u hG h0 _
      refine ⟨_, _, _, rfl, by kernel_rfl, (below_spec u g2 _).mono ?_⟩
      rintro _ u1 ⟨k, rfl, bk, e⟩
      exact ⟨_, rfl, G_call (i := 38) (t := 45) (c := 50) (by decide) (by decide) hG e (ans_below hc (hG.1.trans' e) bk (by simp [fieldP]))⟩
    · intro D ν u hG _ h0 h1
      exact G_ins (i := 39) (c := 50) (by decide) (by decide) hG h0 (hG.2.1 (38, 45, 50) (by decide) h1)
    · intro D ν u hG h0 _
      refine ⟨_, _, _, rfl, by kernel_rfl, (below_spec u g2 _).mono ?_⟩
      rintro _ u1 ⟨k, rfl, bk, e⟩
      exact ⟨_, rfl, G_call (i := 41) (t := 47) (c := 49) (by decide) (by decide) hG e (ans_below hc (hG.1.trans' e) bk (by simp [fieldP]))⟩
    · intro D ν u hG _ h0 h1
      exact G_ins (i := 42) (c := 49) (by decide) (by decide) hG h0 (hG.2.1 (41, 47, 49) (by decide) h1)
    · intro D ν u hG h0 _
      refine ⟨_, _, _, rfl, by kernel_rfl, (below_spec u g2 _).mono ?_⟩
      rintro _ u1 ⟨k, rfl, bk, e⟩
      exact ⟨_, rfl, G_call (i := 44) (t := 49) (c := 102) (by decide) (by decide) hG e (ans_below hc (hG.1.trans' e) bk (by simp [fieldP]))⟩
    · intro D ν u hG _ h0 h1
      exact G_ins (i := 45) (c := 102) (by decide) (by decide) hG h0 (hG.2.1 (44, 49, 102) (by decide) h1)
    · intro D ν u hG h0 _
      refine ⟨_, _, _, rfl, by kernel_rfl, (below_spec u g2 _).mono ?_⟩
      rintro _ u1 ⟨k, rfl, bk, e⟩
      exact ⟨_, rfl, G_call (i := 47) (t := 51) (c := 120) (by decide) (by decide) hG e (ans_below hc (hG.1.trans' e) bk (by simp [fieldP]))⟩
    · intro D ν u hG _ h0 h1
      exact G_ins (i := 48) (c := 120) (by decide) (by decide) hG h0 (hG.2.1 (47, 51, 120) (by decide) h1)
    · intro D ν u hG _ h0
      exact G_ins (i := 50) (c := 106) (by decide) (by decide) hG h0 ⟨_, _, _, _, rfl, by kernel_rfl, (hc.ext hG.1).bn, fun u e _ => by
        refine (field4_spec (hc.ext e)).mono ?_
        rintro r w' ⟨rfl, e1⟩
        exact ⟨by simp [fieldP], e1⟩⟩
    · intro D ν u hG _ h0
      exact G_ins (i := 52) (c := 110) (by decide) (by decide) hG h0 ⟨_, _, _, _, rfl, by kernel_rfl, (hc.ext hG.1).bn, fun u e _ => by
        refine (field5_spec (hc.ext e)).mono ?_
        rintro r w' ⟨rfl, e1⟩
        exact ⟨by simp [fieldP], e1⟩⟩
    · intro D ν u hG _ h0
      exact G_ins (i := 54) (c := 109) (by decide) (by decide) hG h0 ⟨_, _, _, _, rfl, by kernel_rfl, (hc.ext hG.1).bn, fun u e _ => by
        refine (field6_spec (hc.ext e)).mono ?_
        rintro r w' ⟨rfl, e1⟩
        exact ⟨by simp [fieldP], e1⟩⟩
    · intro D ν u hG h0 _
      refine ⟨_, _, _, rfl, by kernel_rfl, (cursor_spec u _).mono ?_⟩
      rintro _ u1 ⟨k, rfl, bk, e⟩
      exact ⟨_, rfl, G_call (i := 56) (t := 56) (c := 105) (by decide) (by decide) hG e (ans_cur hc (hG.1.trans' e) ⟨by kernel_rfl, field7_spec⟩ bk (by simp [fieldP]))⟩
    · intro D ν u hG _ h0 h1
      exact G_ins (i := 57) (c := 105) (by decide) (by decide) hG h0 (hG.2.1 (56, 56, 105) (by decide) h1)
    · intro D ν u hG h0 _
      refine ⟨_, _, _, rfl, by kernel_rfl, (cursor_spec u _).mono ?_⟩
      rintro _ u1 ⟨k, rfl, bk, e⟩
      exact ⟨_, rfl, G_call (i := 59) (t := 58) (c := 108) (by decide) (by decide) hG e (ans_cur hc (hG.1.trans' e) ⟨by kernel_rfl, field8_spec⟩ bk (by simp [fieldP]))⟩
    · intro D ν u hG _ h0 h1
      exact G_ins (i := 60) (c := 108) (by decide) (by decide) hG h0 (hG.2.1 (59, 58, 108) (by decide) h1)
    · intro D ν u hG h0 _
      refine ⟨_, _, _, rfl, by kernel_rfl, (cursor_spec u _).mono ?_⟩
      rintro _ u1 ⟨k, rfl, bk, e⟩
      exact ⟨_, rfl, G_call (i := 62) (t := 60) (c := 119) (by decide) (by decide) hG e (ans_cur hc (hG.1.trans' e) ⟨by kernel_rfl, field9_spec⟩ bk (by simp [fieldP]))⟩
    · intro D ν u hG _ h0 h1
      exact G_ins (i := 63) (c := 119) (by decide) (by decide) hG h0 (hG.2.1 (62, 60, 119) (by decide) h1)
    · intro D ν u hG _ h0
      exact G_ins (i := 65) (c := 113) (by decide) (by decide) hG h0 ⟨_, _, _, _, rfl, by kernel_rfl, (hc.ext hG.1).bn, fun u e _ => by
        refine (field10_spec (hc.ext e)).mono ?_
        rintro r w' ⟨rfl, e1⟩
        exact ⟨by simp [fieldP], e1⟩⟩
  · intro D ν u d0 d2 d6 d7 d12 d13 d17 d18 d23 d24 d29 d30 d35 d36 d38 d39 d41 d42 d44 d45 d47 d48 d50 d52 d54 d56 d57 d59 d60 d62 d63 d65 hG
    obtain ⟨M, m, h1, h2, h3, h4, h5⟩ := hG.2.2.2 d0
    obtain ⟨q, hq, hql⟩ := letters_in l hl
    have hd : ∀ q ∈ tins, D q.1 = true := fun q hq => by
      simp only [tins, List.mem_cons, List.mem_nil_iff, or_false] at hq
      rcases hq with rfl | rfl | rfl | rfl | rfl | rfl | rfl | rfl | rfl | rfl | rfl | rfl | rfl | rfl | rfl | rfl | rfl | rfl <;> assumption
    have hs := h5 q hq (hd q hq)
    rw [hql] at hs
    obtain ⟨v, hv⟩ := Option.isSome_iff_exists.1 hs
    obtain ⟨_, hr⟩ := h3.look keyLet mapLet l (z := Value.nilFunc) (fun w => by kernel_rfl)
    rw [hv] at hr
    obtain ⟨fid, cap, k, cur, rfl, hb, bk, hcall⟩ := h4 l v hv
    refine ⟨_, h1, _, _, hr, fid, _, _, rfl, hb, ?_⟩
    have := hcall u hG.1 bk
    simp only [List.nil_append, Array.toArray_toList]
    refine this.mono ?_
    rintro _ u' ⟨rfl, e⟩
    exact ⟨_, rfl, rfl, (e0.trans' hG.1).trans' e⟩
end Go.Proofs.YtaifphjenebgoaaDoor
/- Layer 15 (code): what hangs on two numbers of an instruction. -/
set_option linter.unusedVariables false
set_option linter.unusedSimpArgs false
namespace Go.Proofs.YtaifphjenebgoaaDoor
open Go Go.Sx R1 K15
theorem fields_of {p : Prog} {t : Int} {i : Ins} {x y z u : UInt8} (hs : shapeP i.op = [x, y, z, u]) (h : fieldsP p t i = true) :
    fieldP p t x.toNat i.a = true ∧ fieldP p t y.toNat i.b = true ∧ fieldP p t z.toNat i.c = true ∧ fieldP p t u.toNat i.d = true := by
  unfold fieldsP at h
  rw [hs] at h
  simp only [fieldsL, Bool.and_eq_true] at h
  exact h
theorem field_r {p : Prog} {t n : Int} (h : fieldP p t ((114 : UInt8).toNat : Int) n = true) : 0 ≤ n ∧ n < p.regs := by
  have h : fieldP p t 114 n = true := h
  simpa [fieldP, below] using h
theorem field_s {p : Prog} {t n : Int} (h : fieldP p t ((115 : UInt8).toNat : Int) n = true) : 0 ≤ n ∧ n < p.sorts.length := by
  have h : fieldP p t 115 n = true := h
  simpa [fieldP, below] using h
section
variable {w : World} {p : Prog} {a : PAd}
theorem fits_spec {g : Nat} (bp : Blk w g (pcs p a)) {f m : Int} (hr : 0 ≤ p.regs ∧ p.regs ≤ 250) (hf : 0 ≤ f ∧ f < p.regs) :
    CallsV Tryd.prog 59 #[.int .i64 f, .int .i64 m, .pointer (some ⟨g, 0, none⟩)] w fun r w' => r = .bool (fitsP p f m) ∧ w' = w := by
  refine code_runs_1.calls okay ?_
  unfold code_runs_1.W
  exact ⟨_, bp.cell rfl, by rw [wi _ (by omega) (by omega)]; rfl, rfl⟩
theorem insAt_imm (h : PIm w p a) {t : Nat} (ht : t < p.code.length) : ∃ ad, a.dA = some ad ∧ ∀ (u : World), Ext w u → ∀ (j : Nat) (v : Value), [Value.int .u8 p.code[t].op, .int .i64 p.code[t].a, .int .i64 p.code[t].b, .int .i64 p.code[t].c, .int .i64 p.code[t].d][j]? = some v → u.cell? ((ad.add (t * 5)).add j) = some v := by
  obtain ⟨ad, hA, cs, hrep, hc⟩ := h.code.get1 ht
  have hcs : cs = [.int .u8 p.code[t].op, .int .i64 p.code[t].a, .int .i64 p.code[t].b, .int .i64 p.code[t].c, .int .i64 p.code[t].d] := hrep
  subst hcs
  exact ⟨ad, hA, fun u e j v hv => by rw [add_add]; exact e.cell (fun h => h) (hc j v hv)⟩
theorem srtAt_imm (h : PIm w p a) {n : Int} (hn : 0 ≤ n ∧ n < p.sorts.length) : ∃ ad, a.sA = some ad ∧ ∃ A c, ∀ (u : World), Ext w u → ∀ (j : Nat) (v : Value), [Value.slice A (srtAt p n).desc.length c, .int .i64 (srtAt p n).cols, .bool (srtAt p n).dist][j]? = some v → u.cell? ((ad.add (n.toNat * 3)).add j) = some v := by
  have hlt : n.toNat < p.sorts.length := by omega
  obtain ⟨ad, hA, cs, hrep, hc⟩ := h.sorts.get1 hlt
  have e : srtAt p n = p.sorts[n.toNat] := by simp [srtAt, hlt]
  obtain ⟨A, c, hcs, _⟩ := id hrep
  subst hcs
  rw [e]
  exact ⟨ad, hA, A, c, fun u e j v hv => by rw [add_add]; exact e.cell (fun h => h) (hc j v hv)⟩
set_option maxRecDepth 10000 in
theorem runs_spec (h : PIm w p a) (hT : Tab w) {t : Nat} (ht : t < p.code.length) (hr : 0 ≤ p.regs ∧ p.regs ≤ 250) (hf : fieldsP p t p.code[t] = true) :
    CallsV Tryd.prog 21 #[pagg p a, .int .i64 t] w fun r w' => r = .bool (runsP p t p.code[t]) ∧ Ext w w' := by
  refine code_runs.calls okay ?_
  unfold code_runs.W
  intro g wa fa
  obtain ⟨ad, hA, hc⟩ := insAt_imm h ht
  refine ⟨_, _, _, fa.blk.cell rfl, ad, hA, ⟨by omega, by omega⟩, _, by rw [Int.toNat_natCast]; exact hc wa fa.ext 0 _ rfl, _, by rw [Int.toNat_natCast]; exact hc wa fa.ext 1 _ rfl, _, by rw [Int.toNat_natCast]; exact hc wa fa.ext 2 _ rfl,
    _, by rw [Int.toNat_natCast]; exact hc wa fa.ext 3 _ rfl, _, by rw [Int.toNat_natCast]; exact hc wa fa.ext 4 _ rfl, ?_⟩
  intro g1 wb fb
  refine ⟨fb.blk.stOK [_, _, _, _, _] 0 (by simp), fun w1 hw1 => ?_⟩
  have bi : Blk w1 g1 [.int .u8 p.code[t].op, .int .i64 p.code[t].a, .int .i64 p.code[t].b, .int .i64 p.code[t].c, .int .i64 p.code[t].d] := by rw [hw1]; exact Blk.setAll (o := 0) [_, _, _, _, _] 0 fb.blk
  have bp : Blk w1 g (pcs p a) := by
    rw [hw1]; exact (fa.blk.ext fb.ext).keep (Fr.setAll (g := g1) (o := 0) _ 0 wb) (fun e => by have := fb.ge; have := fa.blk.lt; omega)
  have e1 : Ext w w1 := by rw [hw1]; exact Ext.setAll (fa.ext.trans' fb.ext) (Nat.le_trans fa.ext.size fb.ge) _ _
  clear hw1 fa fb hc
  generalize hi : p.code[t] = i at *
  unfold runsP
  refine ⟨_, bi.cell rfl, brd (fun h8 => ?_) (fun h8 => ?_)⟩
  · rw [if_pos h8]
    obtain ⟨q1, q2, q3, q4⟩ := fields_of (x := 114) (y := 114) (z := 109) (u := 102) (by rw [h8]; decide) hf
    refine ⟨_, bi.cell rfl, (Func_spec (hT.ext e1) i.d).mono ?_⟩
    rintro _ u ⟨rfl, e2⟩
    have e := e1.trans' e2
    refine ⟨_, _, rfl, _, (bi.ext e2).cell rfl, brd (fun hq => ?_) (fun hq => ⟨by simp [hq], e⟩)⟩
    refine ⟨_, (bi.ext e2).cell rfl, _, (bi.ext e2).cell rfl, (fits_spec (bp.ext e2) hr (field_r q2)).mono ?_⟩
    rintro _ u' ⟨rfl, hu⟩
    obtain rfl : u = u' := hu.symm
    refine ⟨_, rfl, cbool (fun hq2 => ?_) (fun hq2 => ⟨by simp [hq, hq2], e⟩)⟩
    refine ⟨_, (bi.ext e2).cell rfl, (Known_spec u _ i.c).mono ?_⟩
    rintro _ u' ⟨rfl, hu⟩
    obtain rfl : u = u' := hu.symm
    refine ⟨_, rfl, ?_, e⟩
    rw [hq2, decide_eq_true hq, Bool.true_and, Bool.true_and]
    have : (nth fNames i.d).1 = fnAt i.d := by unfold nth fnAt; split <;> rfl
    rw [this]
  rw [if_neg h8]
  refine brd (fun h12 => ?_) (fun h12 => ?_)
  · rw [if_pos h12]
    obtain ⟨q1, q2, q3, q4⟩ := fields_of (x := 106) (y := 114) (z := 114) (u := 109) (by rw [h12]; decide) hf
    refine ⟨_, bi.cell rfl, _, bi.cell rfl, (fits_spec bp hr (field_r q2)).mono ?_⟩
    rintro _ u' ⟨rfl, hu⟩
    obtain rfl : w1 = u' := hu.symm
    refine ⟨_, rfl, cbool (fun hq2 => ?_) (fun hq2 => ⟨by simp [hq2], e1⟩)⟩
    refine ⟨_, bi.cell rfl, _, bi.cell rfl, (fits_spec bp hr (field_r q3)).mono ?_⟩
    rintro _ u' ⟨rfl, hu⟩
    obtain rfl : w1 = u' := hu.symm
    exact ⟨_, rfl, by simp [hq2], e1⟩
  rw [if_neg h12]
  refine ⟨fun x u => x = decide (i.op = 14 ∨ i.op = 16) ∧ u = w1, ?_, ?_⟩
  rotate_left
  · exact brd (fun h => ⟨by simp [h], rfl⟩) (fun h => ⟨by simp [h], rfl⟩)
  rintro x u ⟨rfl, hu⟩
  obtain rfl : w1 = u := hu.symm
  refine brd (fun h14 => ?_) (fun h14 => ?_)
  · rw [if_pos h14]
    obtain ⟨q1, q2, q3, q4⟩ := fields_of (x := 105) (y := 106) (z := 114) (u := 109) (by rcases h14 with h | h <;> rw [h] <;> decide) hf
    refine ⟨_, bi.cell rfl, _, bi.cell rfl, (fits_spec bp hr (field_r q3)).mono ?_⟩
    rintro _ u' ⟨rfl, hu⟩
    obtain rfl : w1 = u' := hu.symm
    exact ⟨_, rfl, rfl, e1⟩
  rw [if_neg h14]
  refine brd (fun h18 => ?_) (fun h18 => ?_)
  · rw [if_pos h18]
    exact ⟨_, bi.cell rfl, rfl, e1⟩
  rw [if_neg h18]
  refine brd (fun h23 => ?_) (fun h23 => ?_)
  · rw [if_pos h23]
    obtain ⟨q1, q2, q3, q4⟩ := fields_of (x := 114) (y := 115) (z := 120) (u := 45) (by rw [h23]; decide) hf
    have hs := field_s q2
    obtain ⟨ad, hA, A, c, hcell⟩ := srtAt_imm h hs
    exact ⟨fun u => Ext w1 u, Fr.drew NoB w1, _, fun u e => (bi.ext e).cell rfl, _, _, _, fun u e => (bp.ext e).cell rfl, _, fun u e => (bi.ext e).cell rfl, ad, hA, ⟨hs.1, hs.2⟩, _, fun u e => hcell u (e1.trans' e) 1 _ rfl, rfl, e1.drew⟩
  rw [if_neg h23]
  refine brd (fun h20 => ?_) (fun h20 => ?_)
  · rw [if_pos h20]
    obtain ⟨q1, q2, q3, q4⟩ := fields_of (x := 115) (y := 114) (z := 114) (u := 45) (by rw [h20]; decide) hf
    have hs := field_s q1
    obtain ⟨ad, hA, A, c, hcell⟩ := srtAt_imm h hs
    have ed : Ext w1 w1.drew := Fr.drew NoB w1
    refine ⟨fun u => Ext w1 u, ed, _, fun u e => (bi.ext e).cell rfl, _, _, _, fun u e => (bp.ext e).cell rfl, _, fun u e => (bi.ext e).cell rfl, ad, hA, ⟨hs.1, hs.2⟩, _, _, _, fun u e => hcell u (e1.trans' e) 0 _ rfl, (fits_spec (bp.ext ed) hr (field_r q2)).mono ?_⟩
    rintro _ u' ⟨rfl, hu⟩
    obtain rfl : w1.drew = u' := hu.symm
    refine ⟨_, rfl, ed, cbool (fun hq2 => ?_) (fun hq2 => ⟨by simp [hq2], e1.drew⟩)⟩
    refine ⟨fun u => Ext w1 u, ed, _, fun u e => (bi.ext e).cell rfl, _, _, _, fun u e => (bp.ext e).cell rfl, _, fun u e => (bi.ext e).cell rfl, ad, hA, ⟨hs.1, hs.2⟩, _, fun u e => hcell u (e1.trans' e) 1 _ rfl, (fits_spec (bp.ext ed) hr (field_r q3)).mono ?_⟩
    rintro _ u' ⟨rfl, hu⟩
    obtain rfl : w1.drew = u' := hu.symm
    exact ⟨_, rfl, ed, ed, by simp [hq2], e1.drew⟩
  rw [if_neg h20]
  refine brd (fun h27 => ?_) (fun h27 => ?_)
  · rw [if_pos h27]
    obtain ⟨q1, q2, q3, q4⟩ := fields_of (x := 114) (y := 45) (z := 45) (u := 45) (by rw [h27]; decide) hf
    refine ⟨_, bi.cell rfl, _, _, _, bp.cell rfl, (fits_spec bp hr (field_r q1)).mono ?_⟩
    rintro _ u' ⟨rfl, hu⟩
    obtain rfl : w1 = u' := hu.symm
    exact ⟨_, rfl, rfl, e1⟩
  rw [if_neg h27]
  refine ⟨fun x u => x = decide (i.op = 31 ∨ i.op = 32 ∨ i.op = 33 ∨ i.op = 34) ∧ u = w1, ?_, ?_⟩
  · rintro x u ⟨rfl, hu⟩
    obtain rfl : w1 = u := hu.symm
    refine brd (fun h31 => ?_) (fun h31 => ?_)
    · rw [if_pos h31]
      refine brd (fun h0 => ?_) (fun h0 => ⟨by rw [decide_eq_false h0]; rfl, e1⟩)
      exact ⟨_, _, _, bp.cell rfl, by rw [decide_eq_true h0, Bool.true_and]; congr 1; apply decide_eq_decide.2; omega, e1⟩
    · rw [if_neg h31]; exact ⟨rfl, e1⟩
  · refine brd (fun h => ⟨by simp [h], rfl⟩) (fun ha => brd (fun h => ⟨by simp [h], rfl⟩) (fun hb => brd (fun h => ⟨by simp [h], rfl⟩) (fun hc => ⟨by simp [ha, hb, hc], rfl⟩)))
end
end Go.Proofs.YtaifphjenebgoaaDoor
/- Layer 15 (code): Check. -/
set_option linter.unusedVariables false
set_option linter.unusedSimpArgs false
namespace Go.Proofs.YtaifphjenebgoaaDoor
open Go Go.Sx R1 K15
theorem lookS_or (o : Int) : ∀ l : List (Int × List UInt8), lookS l o = [] ∨ ∃ q ∈ l, lookS l o = q.2
  | [] => .inl rfl
  | (k, x) :: r => by
    rw [lookS]
    split
    · exact .inr ⟨(k, x), by simp, rfl⟩
    · rcases lookS_or o r with h | ⟨q, hq, h⟩
      · exact .inl h
      · exact .inr ⟨q, by simp [hq], h⟩
def four : List UInt8 → Bool
  | [x, y, z, u] => letters.contains (x.toNat : Int) && (letters.contains (y.toNat : Int) && (letters.contains (z.toNat : Int) && letters.contains (u.toNat : Int)))
  | _ => false
theorem shapes_four : shapes.all (fun q => four q.2) = true := by decide
theorem shape_four (o : Int) : shapeP o = [] ∨ ∃ x y z u : UInt8, shapeP o = [x, y, z, u] ∧ (x.toNat : Int) ∈ letters ∧ (y.toNat : Int) ∈ letters ∧ (z.toNat : Int) ∈ letters ∧ (u.toNat : Int) ∈ letters := by
  rcases lookS_or o shapes with h | ⟨q, hq, h⟩
  · exact .inl h
  · have e := List.all_eq_true.1 shapes_four q hq
    right
    rw [show shapeP o = q.2 from h]
    generalize q.2 = l at e
    match l, e with
    | [a, b, c, d], e =>
      simp only [four, Bool.and_eq_true, List.contains_iff_mem] at e
      exact ⟨a, b, c, d, rfl, e⟩
theorem bs_get (l : List UInt8) (k : Nat) (b : UInt8) (h : l[k]? = some b) : (bs l)[k]? = some b := by
  obtain ⟨hlt, rfl⟩ := List.getElem?_eq_some_iff.1 h
  have h1 : k < (bs l).size := by simpa [bs, ByteArray.size] using hlt
  rw [getElem?_pos (bs l) k h1]
  congr 1
def nums (i : Ins) : List Int := [i.a, i.b, i.c, i.d]
/-- are the numbers from the k-th on what the letters say? -/
def fieldsFrom (p : Prog) (t : Int) : List UInt8 → List Int → Bool
  | x :: l, n :: r => fieldP p t x.toNat n && fieldsFrom p t l r
  | _, _ => true
theorem fieldsFrom_eq {p : Prog} {t : Int} {i : Ins} {x y z u : UInt8} (h : shapeP i.op = [x, y, z, u]) : fieldsFrom p t [x, y, z, u] (nums i) = fieldsP p t i := by
  unfold fieldsP; rw [h]; simp [fieldsFrom, nums, fieldsL]
section
variable {w : World} {p : Prog} {a : PAd}
theorem okFrom_drop (p : Prog) (l : List Ins) (t : Nat) (h : t < l.length) : okFrom p t (l.drop t) = (okAt p t l[t] && okFrom p (t + 1) (l.drop (t + 1))) := by
  rw [List.drop_eq_getElem_cons h, okFrom]
set_option maxRecDepth 20000 in
theorem Check_spec (h : PIm w p a) (hT : Tab w) : CallsV Tryd.prog 8 #[pagg p a] w fun r w' => r = .int .i64 (if checkP p then 0 else 140) ∧ Ext w w' := by
  refine code_Check.calls okay ?_
  unfold code_Check.W
  intro g wa fa
  have cell : ∀ u, Ext wa u → ∀ (j : Nat) (v : Value), (pcs p a)[j]? = some v → u.cell? ((⟨g, 0, none⟩ : Addr).add j) = some v := fun u e j v hv => (fa.blk.ext e).cell (by simpa using hv)
  have er : Ext wa wa := .refl _ _
  refine ⟨_, cell wa er 0 _ rfl, _, cell wa er 1 _ rfl, _, cell wa er 2 _ rfl, _, _, _, cell wa er 3 _ rfl, _, _, _, cell wa er 4 _ rfl, _, _, _, cell wa er 5 _ rfl, _, _, _, cell wa er 6 _ rfl, _, _, _, cell wa er 7 _ rfl, _, _, _, cell wa er 8 _ rfl,
    (parts_spec (h.ext fa.ext)).mono ?_⟩
  rintro _ w1 ⟨rfl, e1⟩
  have fin : ∀ (b : Bool) (u : World) (x : Int), checkP p = b → Ext wa u → x = (if b then 0 else 140) → (Value.int .i64 x = .int .i64 (if checkP p then 0 else 140) ∧ Ext w u) := fun b u x hb e hx => ⟨by rw [hb, hx], fa.ext.trans' e⟩
  refine ⟨_, rfl, brnb (fun h0 => fin false _ _ (by simp [checkP, h0]) e1 rfl) (fun h0 => ?_)⟩
  refine ⟨_, _, _, cell w1 e1 8 _ rfl, brd (fun h1 => fin false _ _ (by simp [checkP, show ¬ 1 ≤ p.code.length by omega]) e1 rfl) (fun h1 => ?_)⟩
  have h1 : 1 ≤ p.code.length := by omega
  refine ⟨_, _, _, cell w1 e1 8 _ rfl, brd (fun h2 => fin false _ _ (by simp [checkP, show ¬ p.code.length ≤ 4000 by omega]) e1 rfl) (fun h2 => ?_)⟩
  have h2 : p.code.length ≤ 4000 := by omega
  have hlast : p.code.length - 1 < p.code.length := by omega
  obtain ⟨ad, hA, hc⟩ := insAt_imm (h.ext fa.ext) hlast
  have hw : IntKind.i64.wrap ((p.code.length : Int) - 1) = (p.code.length : Int) - 1 := wi _ (by omega) (by omega)
  refine ⟨_, _, _, cell w1 e1 8 _ rfl, _, _, _, cell w1 e1 8 _ rfl, ad, hA, ⟨by rw [hw]; omega, by rw [hw]; omega⟩, _, by rw [hw, show ((p.code.length : Int) - 1).toNat = p.code.length - 1 by omega]; exact hc w1 e1 0 _ rfl, ?_⟩
  have hl : p.code.getD (p.code.length - 1) I0 = p.code[p.code.length - 1] := by simp [List.getD, hlast]
  refine brn (fun h3 => fin false _ _ (by simp only [checkP, hl, decide_eq_false h3]; simp) e1 rfl) (fun h3 => ?_)
  clear hc hA
  have hall : checkP p = okFrom p 0 p.code := by simp only [checkP, hl, h0, decide_eq_true h1, decide_eq_true h2, decide_eq_true h3, Bool.true_and]
  have hr : 0 ≤ p.regs ∧ p.regs ≤ 250 := by
    simp only [partsP, within, Bool.and_eq_true, decide_eq_true_eq] at h0; omega
  refine ⟨_, _, _, cell w1 e1 8 _ rfl, fun x u => ∃ t : Nat, t ≤ p.code.length ∧ x = (t : Int) ∧ checkP p = okFrom p t (p.code.drop t) ∧ Ext wa u, fun x _ => ((p.code.length : Int) - x).toNat, ⟨0, by omega, rfl, by rw [hall]; rfl, e1⟩, ?_⟩
  rintro _ u ⟨t, ht, rfl, hq, e⟩
  refine brd (fun hlt => ?_) (fun hge => ?_)
  rotate_left
  · obtain rfl : t = p.code.length := by omega
    rw [List.drop_length] at hq
    exact fin true _ _ hq e rfl
  have hlt : t < p.code.length := by omega
  rw [okFrom_drop p p.code t hlt] at hq
  obtain ⟨ad, hA, hc⟩ := insAt_imm (h.ext fa.ext) hlt
  refine ⟨ad, hA, ⟨by omega, by omega⟩, _, by rw [Int.toNat_natCast]; exact hc u e 0 _ rfl, _, by rw [Int.toNat_natCast]; exact hc u e 1 _ rfl, _, by rw [Int.toNat_natCast]; exact hc u e 2 _ rfl, _, by rw [Int.toNat_natCast]; exact hc u e 3 _ rfl, _, by rw [Int.toNat_natCast]; exact hc u e 4 _ rfl, ?_⟩
  intro g1 wb fb
  refine ⟨fb.blk.stOK [_, _, _, _, _] 0 (by simp), fun wc hwc => ?_⟩
  have bi : Blk wc g1 [.int .u8 p.code[t].op, .int .i64 p.code[t].a, .int .i64 p.code[t].b, .int .i64 p.code[t].c, .int .i64 p.code[t].d] := by rw [hwc]; exact Blk.setAll (o := 0) [_, _, _, _, _] 0 fb.blk
  have ec : Ext wa wc := by rw [hwc]; exact Ext.setAll (e.trans' fb.ext) (Nat.le_trans e.size fb.ge) _ _
  clear hwc fb hc hA
  generalize hi : p.code[t] = i at *
  refine ⟨_, bi.cell rfl, (shape_spec wc i.op).mono ?_⟩
  rintro _ wd ⟨rfl, ed⟩
  have e' := ec.trans' ed
  refine ⟨_, rfl, ?_⟩
  rcases shape_four i.op with hs | ⟨x, y, z, v, hs, m1, m2, m3, m4⟩
  · rw [hs]
    refine brS (l := []) (l' := []) (fun _ => fin false _ _ ?_ e' rfl) (fun h => absurd rfl h)
    rw [hq]
    simp [okAt, fieldsP, hs, fieldsL]
  rw [hs]
  refine brS (l := [x, y, z, v]) (l' := []) (fun h => by cases h) (fun _ => ?_)
  have bi := bi.ext ed
  refine ⟨_, bi.cell rfl, _, bi.cell rfl, _, bi.cell rfl, _, bi.cell rfl, ?_⟩
  have hfe := fieldsFrom_eq (p := p) (t := (t : Int)) hs
  refine ⟨fun x' u => ∃ k : Nat, k ≤ 4 ∧ x' = (k : Int) ∧ fieldsP p t i = fieldsFrom p t ([x, y, z, v].drop k) ((nums i).drop k) ∧ Ext wa u, fun x' _ => (4 - x').toNat, ⟨0, by omega, rfl, by rw [← hfe]; rfl, e'⟩, ?_⟩
  rintro _ u1 ⟨k, hk, rfl, hf, e2⟩
  have cells : ∀ (Kp : World → Prop), Kp u1 → True := fun _ _ => trivial
  have go : ∀ (k : Nat) (l : UInt8) (n : Int) (u2 : World), [x, y, z, v][k]? = some l → (nums i)[k]? = some n → (l.toNat : Int) ∈ letters → Ext wa u2 → k < 4 → fieldsP p t i = fieldsFrom p t ([x, y, z, v].drop k) ((nums i).drop k) →
      CallsV Tryd.prog 20 #[pagg p a, .int .i64 t, .int .u8 (l.toNat : Int), .int .i64 n] u2 fun r w' => ∃ b, r = .bool b ∧ (b = false → checkP p = false) ∧ (b = true → fieldsP p t i = fieldsFrom p t ([x, y, z, v].drop (k + 1)) ((nums i).drop (k + 1))) ∧ Ext wa w' := by
    intro k l n u2 hl hn hm e3 hk hf
    refine (field_spec ((h.ext fa.ext).ext e3) t l.toNat n hm).mono ?_
    rintro _ u3 ⟨rfl, e4⟩
    obtain ⟨hlt1, rfl⟩ := List.getElem?_eq_some_iff.1 hl
    obtain ⟨hlt2, rfl⟩ := List.getElem?_eq_some_iff.1 hn
    rw [List.drop_eq_getElem_cons hlt1, List.drop_eq_getElem_cons hlt2, fieldsFrom] at hf
    refine ⟨_, rfl, fun hb => ?_, fun hb => ?_, e3.trans' e4⟩
    · rw [hq, okAt, hf, hb]; simp
    · rw [hf, hb, Bool.true_and]
  refine brd (fun hk4 => ?_) (fun hk4 => ?_)
  · refine ⟨⟨by omega, by omega⟩, ?_⟩
    have ez := e2.drew
    have cell' : ∀ u, Ext wa u → ∀ (j : Nat) (v : Value), (pcs p a)[j]? = some v → u.cell? ((⟨g, 0, none⟩ : Addr).add j) = some v := cell
    have rest : ∀ (k : Nat) (l : UInt8) (n : Int) (b0 : Bool), k < 4 → True := fun _ _ _ _ _ => trivial
    refine brd (fun hk0 => ?_) (fun hk0 => brd (fun hk1 => ?_) (fun hk1 => brd (fun hk2 => ?_) (fun hk2 => brd (fun hk3 => ?_) (fun hk3 => by omega))))
    · obtain rfl : k = 0 := by omega
      refine ⟨fun u => Ext wa u, ez, _, fun u e => cell u e 0 _ rfl, _, fun u e => cell u e 1 _ rfl, _, fun u e => cell u e 2 _ rfl, _, _, _, fun u e => cell u e 3 _ rfl, _, _, _, fun u e => cell u e 4 _ rfl, _, _, _, fun u e => cell u e 5 _ rfl, _, _, _, fun u e => cell u e 6 _ rfl, _, _, _, fun u e => cell u e 7 _ rfl, _, _, _, fun u e => cell u e 8 _ rfl,
        _, ⟨by omega, bs_get _ _ x (by rfl)⟩, (go 0 x i.a _ rfl rfl m1 ez (by omega) hf).mono ?_⟩
      rintro _ u3 ⟨b, rfl, hb1, hb2, e3⟩
      refine ⟨_, rfl, brnb (fun hb => fin false _ _ (hb1 hb) e3 rfl) (fun hb => ⟨⟨1, by omega, rfl, hb2 hb, e3⟩, by dsimp only; decide⟩)⟩
    · obtain rfl : k = 1 := by omega
      refine ⟨fun u => Ext wa u, ez, _, fun u e => cell u e 0 _ rfl, _, fun u e => cell u e 1 _ rfl, _, fun u e => cell u e 2 _ rfl, _, _, _, fun u e => cell u e 3 _ rfl, _, _, _, fun u e => cell u e 4 _ rfl, _, _, _, fun u e => cell u e 5 _ rfl, _, _, _, fun u e => cell u e 6 _ rfl, _, _, _, fun u e => cell u e 7 _ rfl, _, _, _, fun u e => cell u e 8 _ rfl,
        _, ⟨by omega, bs_get _ _ y (by rfl)⟩, (go 1 y i.b _ rfl rfl m2 ez (by omega) hf).mono ?_⟩
      rintro _ u3 ⟨b, rfl, hb1, hb2, e3⟩
      refine ⟨_, rfl, brnb (fun hb => fin false _ _ (hb1 hb) e3 rfl) (fun hb => ⟨⟨2, by omega, rfl, hb2 hb, e3⟩, by dsimp only; decide⟩)⟩
    · obtain rfl : k = 2 := by omega
      refine ⟨fun u => Ext wa u, ez, _, fun u e => cell u e 0 _ rfl, _, fun u e => cell u e 1 _ rfl, _, fun u e => cell u e 2 _ rfl, _, _, _, fun u e => cell u e 3 _ rfl, _, _, _, fun u e => cell u e 4 _ rfl, _, _, _, fun u e => cell u e 5 _ rfl, _, _, _, fun u e => cell u e 6 _ rfl, _, _, _, fun u e => cell u e 7 _ rfl, _, _, _, fun u e => cell u e 8 _ rfl,
        _, ⟨by omega, bs_get _ _ z (by rfl)⟩, (go 2 z i.c _ rfl rfl m3 ez (by omega) hf).mono ?_⟩
      rintro _ u3 ⟨b, rfl, hb1, hb2, e3⟩
      refine ⟨_, rfl, brnb (fun hb => fin false _ _ (hb1 hb) e3 rfl) (fun hb => ⟨⟨3, by omega, rfl, hb2 hb, e3⟩, by dsimp only; decide⟩)⟩
    · obtain rfl : k = 3 := by omega
      refine ⟨fun u => Ext wa u, ez, _, fun u e => cell u e 0 _ rfl, _, fun u e => cell u e 1 _ rfl, _, fun u e => cell u e 2 _ rfl, _, _, _, fun u e => cell u e 3 _ rfl, _, _, _, fun u e => cell u e 4 _ rfl, _, _, _, fun u e => cell u e 5 _ rfl, _, _, _, fun u e => cell u e 6 _ rfl, _, _, _, fun u e => cell u e 7 _ rfl, _, _, _, fun u e => cell u e 8 _ rfl,
        _, ⟨by omega, bs_get _ _ v (by rfl)⟩, (go 3 v i.d _ rfl rfl m4 ez (by omega) hf).mono ?_⟩
      rintro _ u3 ⟨b, rfl, hb1, hb2, e3⟩
      refine ⟨_, rfl, brnb (fun hb => fin false _ _ (hb1 hb) e3 rfl) (fun hb => ⟨⟨4, by omega, rfl, hb2 hb, e3⟩, by dsimp only; decide⟩)⟩
  · obtain rfl : k = 4 := by omega
    have hf1 : fieldsP p t i = true := hf
    refine ⟨_, cell u1 e2 0 _ rfl, _, cell u1 e2 1 _ rfl, _, cell u1 e2 2 _ rfl, _, _, _, cell u1 e2 3 _ rfl, _, _, _, cell u1 e2 4 _ rfl, _, _, _, cell u1 e2 5 _ rfl, _, _, _, cell u1 e2 6 _ rfl, _, _, _, cell u1 e2 7 _ rfl, _, _, _, cell u1 e2 8 _ rfl,
      (runs_spec ((h.ext fa.ext).ext e2) (hT.ext (fa.ext.trans' e2)) hlt hr (by rw [hi]; exact hf1)).mono ?_⟩
    rintro _ u3 ⟨rfl, e3⟩
    rw [hi]
    have e3 := e2.trans' e3
    refine ⟨_, rfl, brnb (fun hb => fin false _ _ (by rw [hq, okAt, hb]; simp) e3 rfl) (fun hb => ?_)⟩
    rw [wi _ (by omega) (by omega)]
    refine ⟨⟨t + 1, by omega, by omega, by rw [hq, okAt, hf1, hb]; simp, e3⟩, ?_⟩
    dsimp only; omega
end
end Go.Proofs.YtaifphjenebgoaaDoor
/- Layer 15: what the statements look at; words; the chapter's examples. -/
set_option linter.unusedVariables false
set_option linter.unusedSimpArgs false
namespace Go.Proofs.YtaifphjenebgoaaDoor
open Go Go.Sx R1 K15
abbrev insC (i : Ins) : List Value := [.int .u8 i.op, .int .i64 i.a, .int .i64 i.b, .int .i64 i.c, .int .i64 i.d]
set_option maxRecDepth 10000 in
theorem Great_spec {w : World} {p : Prog} {a : PAd} (h : PIm w p a) : CallsV Tryd.prog 7 #[pagg p a] w fun r w' => ∃ b, r = .bool b ∧ Ext w w' := by
  have m1 := h.l1
  have m2 := h.l2
  have m3 := h.l3
  have m4 := h.l4
  have m5 := h.l5
  simp only [maxLen] at m1 m2 m3 m4 m5
  refine cardindexlaw15_Great.calls okay ?_
  unfold cardindexlaw15_Great.W
  intro g w1 f
  have bp := f.blk
  have h := h.ext f.ext
  have e1 := f.ext
  repeat (first | refine ⟨_, Blk.cell (bp) (by rfl), ?_⟩ | refine ⟨_, _, _, Blk.cell (bp) (by rfl), ?_⟩)
  refine brd (fun _ => ⟨_, rfl, e1⟩) (fun _ => ?_)
  repeat (first | refine ⟨_, Blk.cell (bp) (by rfl), ?_⟩ | refine ⟨_, _, _, Blk.cell (bp) (by rfl), ?_⟩)
  refine brd (fun _ => ⟨_, rfl, e1⟩) (fun _ => ?_)
  repeat (first | refine ⟨_, Blk.cell (bp) (by rfl), ?_⟩ | refine ⟨_, _, _, Blk.cell (bp) (by rfl), ?_⟩)
  refine brd (fun _ => ⟨_, rfl, e1⟩) (fun _ => ?_)
  repeat (first | refine ⟨_, Blk.cell (bp) (by rfl), ?_⟩ | refine ⟨_, _, _, Blk.cell (bp) (by rfl), ?_⟩)
  refine ⟨fun x y u => ∃ k : Nat, k ≤ p.names.length ∧ y = (k : Int) ∧ u = w1, fun x y u => ((p.names.length : Int) - y).toNat, ⟨0, by omega, rfl, rfl⟩, ?_⟩
  rintro x _ u ⟨k, hk, rfl, hu⟩
  obtain rfl : w1 = u := hu.symm
  refine brd (fun hlt => ?_) (fun _ => ?_)
  · repeat (first | refine ⟨_, Blk.cell (bp) (by rfl), ?_⟩ | refine ⟨_, _, _, Blk.cell (bp) (by rfl), ?_⟩)
    obtain ⟨ad, hA, cs, hrep, hc⟩ := h.names.get1 (show k < p.names.length by omega)
    have hcs : cs = [.string p.names[k]] := hrep
    subst hcs
    rw [wi ((k : Int) + 1) (by omega) (by omega)]
    exact ⟨ad, hA, ⟨by omega, by omega⟩, _, hc 0 _ rfl, ⟨k + 1, by omega, by omega, rfl⟩, by dsimp only; omega⟩
  repeat (first | refine ⟨_, Blk.cell (bp) (by rfl), ?_⟩ | refine ⟨_, _, _, Blk.cell (bp) (by rfl), ?_⟩)
  refine ⟨fun x y u => ∃ k : Nat, k ≤ p.consts.length ∧ y = (k : Int) ∧ u = w1, fun x y u => ((p.consts.length : Int) - y).toNat, ⟨0, by omega, rfl, rfl⟩, ?_⟩
  rintro x _ u ⟨k, hk, rfl, hu⟩
  obtain rfl : w1 = u := hu.symm
  refine brd (fun hlt => ?_) (fun _ => ?_)
  · repeat (first | refine ⟨_, Blk.cell (bp) (by rfl), ?_⟩ | refine ⟨_, _, _, Blk.cell (bp) (by rfl), ?_⟩)
    obtain ⟨ad, hA, cs, hrep, hc⟩ := h.consts.get1 (show k < p.consts.length by omega)
    have hcs : cs = vc p.consts[k] := hrep
    subst hcs
    rw [wi ((k : Int) + 1) (by omega) (by omega)]
    exact ⟨ad, hA, ⟨by omega, by omega⟩, _, by rw [add_add]; exact hc 2 _ rfl, ⟨k + 1, by omega, by omega, rfl⟩, by dsimp only; omega⟩
  repeat (first | refine ⟨_, Blk.cell (bp) (by rfl), ?_⟩ | refine ⟨_, _, _, Blk.cell (bp) (by rfl), ?_⟩)
  refine ⟨fun x y u => ∃ k : Nat, k ≤ p.curs.length ∧ y = (k : Int) ∧ u = w1, fun x y u => ((p.curs.length : Int) - y).toNat, ⟨0, by omega, rfl, rfl⟩, ?_⟩
  rintro x _ u ⟨k, hk, rfl, hu⟩
  obtain rfl : w1 = u := hu.symm
  refine brd (fun hlt => ?_) (fun _ => ?_)
  · repeat (first | refine ⟨_, Blk.cell (bp) (by rfl), ?_⟩ | refine ⟨_, _, _, Blk.cell (bp) (by rfl), ?_⟩)
    obtain ⟨ad, hA, cs, hrep, hc⟩ := h.curs.get1 (show k < p.curs.length by omega)
    have hcs : cs = [.string p.curs[k].name, .bool p.curs[k].ix, .bool p.curs[k].wr] := hrep
    subst hcs
    rw [wi ((k : Int) + 1) (by omega) (by omega)]
    exact ⟨ad, hA, ⟨by omega, by omega⟩, _, by rw [add_add]; exact hc 0 _ rfl, ⟨k + 1, by omega, by omega, rfl⟩, by dsimp only; omega⟩
  repeat (first | refine ⟨_, Blk.cell (bp) (by rfl), ?_⟩ | refine ⟨_, _, _, Blk.cell (bp) (by rfl), ?_⟩)
  refine ⟨fun x y u => ∃ k : Nat, k ≤ p.sorts.length ∧ y = (k : Int) ∧ u = w1, fun x y u => ((p.sorts.length : Int) - y).toNat, ⟨0, by omega, rfl, rfl⟩, ?_⟩
  rintro x _ u ⟨k, hk, rfl, hu⟩
  obtain rfl : w1 = u := hu.symm
  refine brd (fun hlt => ?_) (fun _ => ?_)
  · repeat (first | refine ⟨_, Blk.cell (bp) (by rfl), ?_⟩ | refine ⟨_, _, _, Blk.cell (bp) (by rfl), ?_⟩)
    obtain ⟨ad, hA, cs, hrep, hc⟩ := h.sorts.get1 (show k < p.sorts.length by omega)
    obtain ⟨B, d, hcs, _⟩ := id hrep
    subst hcs
    rw [wi ((k : Int) + 1) (by omega) (by omega)]
    exact ⟨ad, hA, ⟨by omega, by omega⟩, _, _, _, by rw [add_add]; exact hc 0 _ rfl, ⟨k + 1, by omega, by omega, rfl⟩, by dsimp only; omega⟩
  repeat (first | refine ⟨_, Blk.cell (bp) (by rfl), ?_⟩ | refine ⟨_, _, _, Blk.cell (bp) (by rfl), ?_⟩)
  refine ⟨fun x y u => ∃ k : Nat, k ≤ p.tots.length ∧ y = (k : Int) ∧ u = w1, fun x y u => ((p.tots.length : Int) - y).toNat, ⟨0, by omega, rfl, rfl⟩, ?_⟩
  rintro x _ u ⟨k, hk, rfl, hu⟩
  obtain rfl : w1 = u := hu.symm
  refine brd (fun hlt => ?_) (fun _ => ⟨_, rfl, e1⟩)
  repeat (first | refine ⟨_, Blk.cell (bp) (by rfl), ?_⟩ | refine ⟨_, _, _, Blk.cell (bp) (by rfl), ?_⟩)
  obtain ⟨ad, hA, cs, hrep, hc⟩ := h.tots.get1 (show k < p.tots.length by omega)
  have hcs : cs = [.string p.tots[k].fn, .bool p.tots[k].dist] := hrep
  subst hcs
  rw [wi ((k : Int) + 1) (by omega) (by omega)]
  exact ⟨ad, hA, ⟨by omega, by omega⟩, _, by rw [add_add]; exact hc 0 _ rfl, ⟨k + 1, by omega, by omega, rfl⟩, by dsimp only; omega⟩
theorem Pick_spec (w : World) (x n : Int) (h1 : 1 ≤ n) (h2 : n ≤ 9223372036854775807) :
    CallsV Tryd.prog 10 #[.int .i64 x, .int .i64 n] w fun r w' => ∃ k : Nat, r = .int .i64 (k : Int) ∧ (k : Int) < n ∧ w' = w := by
  refine cardindexkit_Pick.calls okay ?_
  unfold cardindexkit_Pick.W
  have a1 := Int.lt_tmod_of_pos x (show 0 < n by omega)
  have a2 := Int.tmod_lt_of_pos x (show 0 < n by omega)
  refine brd (fun h => by omega) (fun _ => ⟨by omega, brd (fun h => ?_) (fun h => ?_)⟩)
  · rw [wi _ (by omega) (by omega)]
    exact ⟨(x.tmod n + n).toNat, by congr 1; omega, by omega, rfl⟩
  · exact ⟨(x.tmod n).toNat, by congr 1; omega, by omega, rfl⟩
def oWords : ByteArray := ByteArray.mk #[99, 111, 110, 115, 116, 32, 98, 105, 110, 100, 32, 109, 111, 118, 101, 32, 116, 119, 111, 32, 111, 110, 101, 32, 105, 115, 32, 99, 97, 115, 116, 32, 99, 97, 108, 108, 32, 109, 117, 115, 116, 32, 106, 117, 109, 112, 32, 105, 102, 32, 100, 105, 102, 102, 101, 114, 32, 102, 105, 114, 115, 116, 32, 115, 101, 101, 107, 32, 110, 101, 120, 116, 32, 112, 97, 115, 116, 32, 102, 105, 110, 100, 32, 99, 111, 108, 32, 114, 111, 119, 105, 100, 32, 97, 100, 100, 32, 115, 111, 114, 116, 101, 100, 32, 97, 102, 116, 101, 114, 32, 116, 97, 107, 101, 32, 99, 108, 101, 97, 114, 32, 115, 116, 101, 112, 32, 116, 111, 116, 97, 108, 32, 114, 111, 119, 32, 110, 101, 119, 105, 100, 32, 105, 110, 115, 101, 114, 116, 32, 100, 101, 108, 101, 116, 101, 32, 100, 101, 102, 105, 110, 101, 32, 98, 101, 103, 105, 110, 32, 99, 111, 109, 109, 105, 116, 32, 98, 97, 99, 107, 32, 104, 97, 108, 116]
theorem oField : nth (Lib.fields (sb oWords)) 3 = ([116, 119, 111], true) := by decide +kernel
theorem oAscii : ∀ b ∈ sb oWords, b.toNat < 128 := by decide +kernel
theorem WordTwo_spec {w : World} (hT : Tab w) : CallsV Tryd.prog 14 #[.int .u8 4] w fun r w' => r = .string (bs [116, 119, 111]) ∧ Ext w w' := by
  refine code_Word.calls okay ?_
  unfold code_Word.W
  rw [show IntKind.i64.wrap (IntKind.i64.wrap 4 - 1) = 3 by decide]
  refine (named_spec hT oWords (by decide +kernel) oAscii 3).mono ?_
  rw [oField]
  rintro _ w1 ⟨rfl, e⟩
  exact ⟨_, _, rfl, rfl, e⟩
theorem Itoa_spec (w : World) (i : Nat) (hi : i < 10) : CallsV Tryd.prog 22 #[.int .i64 i] w fun r w' => r = .string (bs [UInt8.ofNat (48 + i)]) ∧ w' = w := by
  refine Calls.mono (Tryd.strconv_Itoa_small i (by omega) w) ?_
  rintro e w' ⟨he, hw⟩
  rw [Lib.decDigits, dif_pos hi] at he
  exact ⟨_, he, rfl, hw⟩
def preS : List (List UInt8) := [[116, 119, 111], [116, 119, 111, 32, 50], [116, 119, 111, 32, 50, 32, 48], [116, 119, 111, 32, 50, 32, 48, 32, 49], [116, 119, 111, 32, 50, 32, 48, 32, 49, 32, 54]]
abbrev iTwo : Ins := ⟨4, 2, 0, 1, 6⟩
theorem ShowTwo_spec {w : World} (hT : Tab w) : CallsV Tryd.prog 11 #[.agg #[.int .u8 4, .int .i64 2, .int .i64 0, .int .i64 1, .int .i64 6]] w fun r w' => r = .string (bs [116, 119, 111, 32, 50, 32, 48, 32, 49, 32, 54]) ∧ Ext w w' := by
  refine code_Show.calls okay ?_
  unfold code_Show.W
  intro g w1 f
  have b : Blk w1 g (insC iTwo) := f.blk
  repeat (first | refine ⟨_, Blk.cell (b) (by rfl), ?_⟩ | refine ⟨_, _, _, Blk.cell (b) (by rfl), ?_⟩)
  refine (WordTwo_spec (hT.ext f.ext)).mono ?_
  rintro _ w2 ⟨rfl, k2⟩
  have e2 := f.ext.trans' k2
  have b := b.ext k2
  clear f
  refine ⟨_, rfl, fun x u => x = bs [116, 119, 111] ∧ u = w2, ?_, brS (fun h => absurd h (by decide)) (fun _ => ⟨rfl, rfl⟩)⟩
  rintro x u ⟨rfl, hu⟩
  subst hu
  repeat (first | refine ⟨_, Blk.cell (b) (by rfl), ?_⟩ | refine ⟨_, _, _, Blk.cell (b) (by rfl), ?_⟩)
  refine ⟨fun x y v => ∃ k : Nat, k ≤ 4 ∧ y = (k : Int) ∧ x = bs (preS.getD k []) ∧ v = u, fun x y v => (4 - y).toNat, ⟨0, by omega, rfl, rfl, rfl⟩, ?_⟩
  rintro x _ v ⟨k, hk, rfl, rfl, hv⟩
  subst hv
  refine brd (fun hlt => ⟨⟨by omega, by omega⟩, ?_⟩) (fun hge => ?_)
  · refine brd (fun h => ?_) (fun n0 => brd (fun h => ?_) (fun n1 => brd (fun h => ?_) (fun n2 => brd (fun h => ?_) (fun n3 => by omega))))
    · obtain rfl : k = 0 := by omega
      refine (Itoa_spec v 2 (by omega)).mono ?_
      rintro _ v1 ⟨rfl, hv⟩
      exact ⟨_, rfl, by decide, by decide, ⟨1, by omega, rfl, rfl, hv⟩, by dsimp only; decide⟩
    · obtain rfl : k = 1 := by omega
      refine (Itoa_spec v 0 (by omega)).mono ?_
      rintro _ v1 ⟨rfl, hv⟩
      exact ⟨_, rfl, by decide, by decide, ⟨2, by omega, rfl, rfl, hv⟩, by dsimp only; decide⟩
    · obtain rfl : k = 2 := by omega
      refine (Itoa_spec v 1 (by omega)).mono ?_
      rintro _ v1 ⟨rfl, hv⟩
      exact ⟨_, rfl, by decide, by decide, ⟨3, by omega, rfl, rfl, hv⟩, by dsimp only; decide⟩
    · obtain rfl : k = 3 := by omega
      refine (Itoa_spec v 6 (by omega)).mono ?_
      rintro _ v1 ⟨rfl, hv⟩
      exact ⟨_, rfl, by decide, by decide, ⟨4, by omega, rfl, rfl, hv⟩, by dsimp only; decide⟩
  · obtain rfl : k = 4 := by omega
    exact ⟨rfl, e2⟩
end Go.Proofs.YtaifphjenebgoaaDoor
/- Layer 15: the chapter's examples. -/
set_option linter.unusedVariables false
set_option linter.unusedSimpArgs false
namespace Go.Proofs.YtaifphjenebgoaaDoor
open Go Go.Sx R1 K15
abbrev hHalt : Ins := ⟨35, 0, 0, 0, 0⟩
abbrev hJump (a : Int) : Ins := ⟨10, a, 0, 0, 0⟩
abbrev hP (l : List Ins) : Prog := ⟨1, 1, 0, [], [], [], [], [], l⟩
abbrev hA (A : Option Addr) (c : Nat) : PAd := ⟨none, 0, none, 0, none, 0, none, 0, none, 0, A, c⟩
theorem hPim {w : World} {A : Option Addr} {c : Nat} {l : List Ins} (h : Imm KIns NoB w A l) (hl : l.length ≤ 2) (hc : l.length ≤ c) : PIm w (hP l) (hA A c) :=
  ⟨Imm.nil _ _ _ _, Imm.nil _ _ _ _, Imm.nil _ _ _ _, Imm.nil _ _ _ _, Imm.nil _ _ _ _, h, Nat.zero_le _, Nat.zero_le _, Nat.zero_le _, Nat.zero_le _, Nat.zero_le _, Nat.le_trans hl (by simp [maxLen]), hc⟩
theorem cellSet {u v : World} {g o : Nat} {x : Value} {cs : List Value} (hb : Blk u g cs) (hv : v = setAll ((⟨g, 0, none⟩ : Addr).add o) 0 [x] u) : Blk v g (cs.set o x) ∧ Fr (fun k => k = g) u v := by
  rw [add_new] at hv
  have h1 : Blk v g (cs.set (0 + o) x) := by rw [hv]; exact Blk.setAll (o := 0 + o) [x] 0 hb
  rw [Nat.zero_add] at h1
  exact ⟨h1, by rw [hv]; exact Fr.setAll _ _ _⟩
theorem cellOK {u : World} {g o : Nat} {x : Value} {cs : List Value} (hb : Blk u g cs) (ho : o < cs.length) : stOK ((⟨g, 0, none⟩ : Addr).add o) 0 [x] u := by
  rw [add_new]; exact hb.stOK (o := 0 + o) [x] 0 (by simp; omega)
theorem two_imm {w w' : World} {g : Nat} {a : Int} {Ω : Nat → Prop} (f : Fresh w g w' [.int .u8 10, .int .i64 a, .int .i64 0, .int .i64 0, .int .i64 0, .int .u8 35, .int .i64 0, .int .i64 0, .int .i64 0, .int .i64 0] 38) (h : ¬ Ω g) : Imm KIns Ω w' (some ⟨g, 0, none⟩) [hJump a, hHalt] :=
  f.imm h KIns_pos rfl (by simp [maxLen]) (by
    intro i a h
    rcases i with _ | _ | i
    · simp at h; subst h; rfl
    · simp at h; subst h; rfl
    · simp at h)
theorem chk0 : checkP (hP [hHalt]) = true := by decide +kernel
theorem chk1 : checkP (hP [hJump 0, hHalt]) = false := by decide +kernel
theorem chk2 : checkP (hP [hJump 1, hHalt]) = true := by decide +kernel
set_option maxRecDepth 20000 in
set_option maxHeartbeats 4000000 in
theorem awake_spec {w : World} (hT : Tab w) : CallsV Tryd.prog 9 #[] w fun r w' => r = .bool true ∧ Ext w w' := by
  refine cardindexlaw15_awake.calls okay ?_
  unfold cardindexlaw15_awake.W
  intro g0 w1 f0 g1 w2 f1
  refine ⟨f1.blk.stOK (pcs (hP [hHalt]) (hA (some ⟨g0, 0, none⟩) 1)) 0 (by simp), fun w3 hw => ?_⟩
  obtain ⟨b1, q⟩ := set0 f1.blk hw rfl
  have z0 := f0.ge
  have z1 := f1.ge
  have z2 := f0.lt
  have e3 : Ext w w3 := (f0.ext.trans' f1.ext).trans q (fun _ _ h => h) (fun k hk e => by have := f0.ext.size; omega)
  have i0 : Imm KIns (fun k => k = g1) w1 (some ⟨g0, 0, none⟩) [hHalt] := f0.imm (fun h => by omega) KIns_pos rfl (by simp [maxLen]) (by
    intro i a h
    rcases i with _ | i
    · simp at h; subst h; rfl
    · simp at h)
  have i0 : Imm KIns NoB w3 (some ⟨g0, 0, none⟩) [hHalt] := (i0.ext KIns_pos f1.ext).keep KIns_pos (q.step (fun _ _ h => h) (fun _ _ h => h.elim))
  clear hw f0 f1 q z0 z1 z2
  refine ⟨fun u => Ext w3 u, Fr.drew NoB w3, ?_⟩
  repeat (first | refine ⟨_, fun u e => Blk.cell (Blk.ext (b1) e) (by rfl), ?_⟩ | refine ⟨_, _, _, fun u e => Blk.cell (Blk.ext (b1) e) (by rfl), ?_⟩)
  refine ⟨?_, ?_⟩
  case' refine_1 =>
    intro gq w4 f4
    have x4 : Ext w3 w4 := Ext.drew0 f4.ext
    refine ⟨x4, ?_⟩
    intro gr w5 f5
    have x5 := x4.trans' f5.ext
    have hq : w3.heap.size ≤ gq := f4.ge
    have hr : w3.heap.size ≤ gr := Nat.le_trans x4.size f5.ge
    have hn : gq ≠ gr := by have := f4.lt; have := f5.ge; omega
    refine ⟨x5, (f4.blk.ext f5.ext).stOK (pcs (hP [hHalt]) (hA (some ⟨g0, 0, none⟩) 1)) 0 (by simp), fun w6 hw6 => ?_⟩
    obtain ⟨bq, q6⟩ := set0 (f4.blk.ext f5.ext) hw6 rfl
    have br := f5.blk.keep q6 (fun e => hn e.symm)
    have x6 : Ext w3 w6 := x5.trans q6 (fun _ _ h => h) (fun k hk e => by omega)
    refine ⟨x6, br.stOK (pcs (hP [hHalt]) (hA (some ⟨g0, 0, none⟩) 1)) 0 (by simp), fun w7 hw7 => ?_⟩
    obtain ⟨br, q7⟩ := set0 br hw7 rfl
    have bq := bq.keep q7 hn
    have x7 : Ext w3 w7 := x6.trans q7 (fun _ _ h => h) (fun k hk e => by omega)
    clear hw7 hw6 q7 q6 x6 x5 f5 x4 f4
  case' refine_2 =>
    intro gr w4 f4
    have x4 : Ext w3 w4 := Ext.drew0 f4.ext
    refine ⟨x4, ?_⟩
    intro gq w5 f5
    have x5 := x4.trans' f5.ext
    have hr : w3.heap.size ≤ gr := f4.ge
    have hq : w3.heap.size ≤ gq := Nat.le_trans x4.size f5.ge
    have hn : gq ≠ gr := by have := f4.lt; have := f5.ge; omega
    refine ⟨x5, f5.blk.stOK (pcs (hP [hHalt]) (hA (some ⟨g0, 0, none⟩) 1)) 0 (by simp), fun w6 hw6 => ?_⟩
    obtain ⟨bq, q6⟩ := set0 f5.blk hw6 rfl
    have br := (f4.blk.ext f5.ext).keep q6 (fun e => hn e.symm)
    have x6 : Ext w3 w6 := x5.trans q6 (fun _ _ h => h) (fun k hk e => by omega)
    refine ⟨x6, br.stOK (pcs (hP [hHalt]) (hA (some ⟨g0, 0, none⟩) 1)) 0 (by simp), fun w7 hw7 => ?_⟩
    obtain ⟨br, q7⟩ := set0 br hw7 rfl
    have bq := bq.keep q7 hn
    have x7 : Ext w3 w7 := x6.trans q7 (fun _ _ h => h) (fun k hk e => by omega)
    clear hw7 hw6 q7 q6 x6 x5 f5 x4 f4
  all_goals
    intro g8 w8 f8
    have y8 := f8.ge
    have l8 := f8.lt
    have lq := bq.lt
    have lr := br.lt
    have sz7 := x7.size
    have i8 : Imm KIns (fun k => k = gq ∨ k = gr) w8 (some ⟨g8, 0, none⟩) [hJump 0, hHalt] := two_imm f8 (fun h => by omega)
    refine ⟨cellOK (bq.ext f8.ext) (by simp), fun w9 hw9 => ?_⟩
    obtain ⟨bq9, q9⟩ := cellSet (bq.ext f8.ext) hw9
    have i9 : Imm KIns (fun k => k = gr) w9 (some ⟨g8, 0, none⟩) [hJump 0, hHalt] := i8.keep KIns_pos (q9.step (fun _ _ h => .inl h) (fun _ _ h => .inr h))
    have br9 := (br.ext f8.ext).keep q9 (fun e => hn e.symm)
    have lr9 := br9.lt
    intro g10 w10 f10
    have y10 := f10.ge
    have i10 : Imm KIns (fun k => k = gr) w10 (some ⟨g10, 0, none⟩) [hJump 1, hHalt] := two_imm f10 (fun h => by omega)
    refine ⟨cellOK (br9.ext f10.ext) (by simp), fun w11 hw11 => ?_⟩
    obtain ⟨br11, q11⟩ := cellSet (br9.ext f10.ext) hw11
    have bq11 := (bq9.ext f10.ext).keep q11 hn
    have x9 : Ext w3 w9 := (x7.trans' f8.ext).trans q9 (fun _ _ h => h) (fun k hk e => by omega)
    have x11 : Ext w3 w11 := (x9.trans' f10.ext).trans q11 (fun _ _ h => h) (fun k hk e => by omega)
    have j1 : Imm KIns NoB w11 (some ⟨g8, 0, none⟩) [hJump 0, hHalt] := (i9.ext KIns_pos f10.ext).keep KIns_pos (q11.step (fun _ _ h => h) (fun _ _ h => h.elim))
    have j2 : Imm KIns NoB w11 (some ⟨g10, 0, none⟩) [hJump 1, hHalt] := i10.keep KIns_pos (q11.step (fun _ _ h => h) (fun _ _ h => h.elim))
    have p0 : PIm w11 (hP [hHalt]) (hA (some ⟨g0, 0, none⟩) 1) := hPim (i0.ext KIns_pos x11) (by simp) (by simp)
    have p1 : PIm w11 (hP [hJump 0, hHalt]) (hA (some ⟨g8, 0, none⟩) 2) := hPim j1 (by simp) (by simp)
    have p2 : PIm w11 (hP [hJump 1, hHalt]) (hA (some ⟨g10, 0, none⟩) 2) := hPim j2 (by simp) (by simp)
    have e11 := e3.trans' x11
    have b11 := b1.ext x11
    clear x9 x11 q9 q11 f8 f10 i8 i9 i10 hw9 hw11 br9 bq9 j1 j2
    refine (ShowTwo_spec (hT.ext e11)).mono ?_
    rintro _ w12 ⟨rfl, k12⟩
    refine ⟨_, rfl, brS (fun _ => ?_) (fun h => absurd rfl h)⟩
    repeat (first | refine ⟨_, Blk.cell (b11.ext k12) (by rfl), ?_⟩ | refine ⟨_, _, _, Blk.cell (b11.ext k12) (by rfl), ?_⟩)
    refine (Check_spec (p0.ext k12) (hT.ext (e11.trans' k12))).mono ?_
    rintro _ w13 ⟨rfl, k13⟩
    rw [chk0]
    refine ⟨_, rfl, brd (fun _ => ?_) (fun h => absurd rfl h)⟩
    have k := k12.trans' k13
    repeat (first | refine ⟨_, Blk.cell (bq11.ext k) (by rfl), ?_⟩ | refine ⟨_, _, _, Blk.cell (bq11.ext k) (by rfl), ?_⟩)
    refine (Check_spec (p1.ext k) (hT.ext (e11.trans' k))).mono ?_
    rintro _ w14 ⟨rfl, k14⟩
    rw [chk1]
    refine ⟨_, rfl, brd (fun _ => ?_) (fun h => absurd rfl h)⟩
    have k' := k.trans' k14
    repeat (first | refine ⟨_, Blk.cell (br11.ext k') (by rfl), ?_⟩ | refine ⟨_, _, _, Blk.cell (br11.ext k') (by rfl), ?_⟩)
    refine (Check_spec (p2.ext k') (hT.ext (e11.trans' k'))).mono ?_
    rintro _ w15 ⟨rfl, k15⟩
    rw [chk2]
    exact ⟨_, rfl, rfl, e11.trans' (k'.trans' k15)⟩
end Go.Proofs.YtaifphjenebgoaaDoor
/- Layer 15, plain: how instructions are shown. -/
set_option linter.unusedVariables false
set_option linter.unusedSimpArgs false
namespace K15
open Go
/-! digits -/
def valD (l : List UInt8) : Nat := l.foldl (fun n x => 10 * n + (x.toNat - 48)) 0
theorem valD_snoc (l : List UInt8) (x : UInt8) : valD (l ++ [x]) = 10 * valD l + (x.toNat - 48) := by unfold valD; rw [List.foldl_append]; rfl
theorem dig_toNat {k : Nat} (h : k < 10) : (UInt8.ofNat (48 + k)).toNat = 48 + k := by
  rw [UInt8.toNat_ofNat']; exact Nat.mod_eq_of_lt (by omega)
theorem valD_dec (u : Nat) : valD (Lib.decDigits u) = u := by
  induction u using Nat.strongRecOn with
  | ind u ih =>
    rw [Lib.decDigits]
    split
    · next h => show valD ([] ++ [_]) = u; rw [valD_snoc, dig_toNat h]; show 10 * 0 + _ = u; omega
    · next h => rw [valD_snoc, ih (u / 10) (by omega), dig_toNat (Nat.mod_lt _ (by omega))]; omega
theorem dec_inj {u v : Nat} (h : Lib.decDigits u = Lib.decDigits v) : u = v := by rw [← valD_dec u, h, valD_dec]
def isDig (x : UInt8) : Prop := 48 ≤ x.toNat ∧ x.toNat ≤ 57
theorem dec_dig (u : Nat) : Lib.decDigits u ≠ [] ∧ ∀ x ∈ Lib.decDigits u, isDig x := by
  induction u using Nat.strongRecOn with
  | ind u ih =>
    rw [Lib.decDigits]
    split
    · next h =>
      refine ⟨by simp, fun x hx => ?_⟩
      simp only [List.mem_singleton] at hx
      subst hx
      unfold isDig; rw [dig_toNat h]; omega
    · next h =>
      refine ⟨by simp, fun x hx => ?_⟩
      rcases List.mem_append.1 hx with hx | hx
      · exact (ih (u / 10) (by omega)).2 x hx
      · simp only [List.mem_singleton] at hx
        subst hx
        unfold isDig; rw [dig_toNat (Nat.mod_lt _ (by omega))]
        have := Nat.mod_lt u (show 10 > 0 by omega)
        omega
theorem itoa_inj {m n : Int} (h : Lib.itoa m = Lib.itoa n) : m = n := by
  have no : ∀ (u v : Nat), Lib.decDigits u ≠ 45 :: Lib.decDigits v := fun u v h => by
    have := (dec_dig u).2 45 (by rw [h]; simp)
    exact absurd this.1 (by decide)
  unfold Lib.itoa at h
  split at h <;> split at h
  · have := dec_inj (List.cons.inj h).2; omega
  · exact absurd h.symm (no _ _)
  · exact absurd h (no _ _)
  · have := dec_inj h; omega
/-! words of no blank -/
def tok (t : List UInt8) : Prop := t ≠ [] ∧ ∀ x ∈ t, Lib.isSp x = false
theorem dig_sp {x : UInt8} (h : isDig x) : Lib.isSp x = false := by
  have : ∀ n : Nat, n < 256 → 48 ≤ n → n ≤ 57 → Lib.isSp (UInt8.ofNat n) = false := by decide +kernel
  have := this x.toNat x.toNat_lt h.1 h.2
  rwa [UInt8.ofNat_toNat] at this
theorem tok_itoa (n : Int) : tok (Lib.itoa n) := by
  unfold Lib.itoa
  split
  · exact ⟨by simp, fun x hx => by
      rcases List.mem_cons.1 hx with rfl | hx
      · decide
      · exact dig_sp ((dec_dig _).2 x hx)⟩
  · exact ⟨(dec_dig _).1, fun x hx => dig_sp ((dec_dig _).2 x hx)⟩
def tailS : List (List UInt8) → List UInt8
  | [] => []
  | t :: l => 32 :: (t ++ tailS l)
theorem fieldsGo_tok : ∀ (t cur rest : List UInt8), (∀ x ∈ t, Lib.isSp x = false) → Lib.fieldsGo cur (t ++ rest) = Lib.fieldsGo (cur ++ t) rest
  | [], cur, rest, _ => by simp
  | x :: t, cur, rest, h => by
    rw [List.cons_append, Lib.fieldsGo, h x (by simp)]
    simp only [Bool.false_eq_true, if_false]
    rw [fieldsGo_tok t (cur ++ [x]) rest (fun y hy => h y (by simp [hy]))]
    simp
theorem fields_tail : ∀ (l : List (List UInt8)) (cur : List UInt8), cur ≠ [] → (∀ t ∈ l, tok t) → Lib.fieldsGo cur (tailS l) = cur :: l
  | [], cur, hc, _ => by
    rw [tailS, Lib.fieldsGo]
    cases cur with
    | nil => exact absurd rfl hc
    | cons x l => rfl
  | t :: l, cur, hc, h => by
    rw [tailS, Lib.fieldsGo, show Lib.isSp 32 = true by decide]
    have he : cur.isEmpty = false := by
      cases cur with
      | nil => exact absurd rfl hc
      | cons x l => rfl
    simp only [if_true, he, Bool.false_eq_true, if_false]
    have ht := h t (by simp)
    rw [fieldsGo_tok t [] _ ht.2, List.nil_append, fields_tail l t ht.1 (fun y hy => h y (by simp [hy]))]
theorem fields_toks {w : List UInt8} {l : List (List UInt8)} (hw : tok w) (h : ∀ t ∈ l, tok t) : Lib.fields (w ++ tailS l) = w :: l := by
  unfold Lib.fields
  rw [fieldsGo_tok w [] _ hw.2, List.nil_append, fields_tail l w hw.1 h]
/-! no two blanks -/
def noB (s : List UInt8) : Prop := Lib.index s [32, 32] = -1
theorem noB_cons {x : UInt8} {s : List UInt8} (hx : x ≠ 32) (h : noB s) : noB (x :: s) := by
  unfold noB at *
  rw [Lib.index]
  have : List.isPrefixOf [32, 32] (x :: s) = false := by
    simp only [List.isPrefixOf]
    have : ((32 : UInt8) == x) = false := by simpa using fun e => hx e.symm
    rw [this]; rfl
  rw [this, h]; rfl
theorem noB_sp {s : List UInt8} (hs : ∀ x t, s = x :: t → x ≠ 32) (h : noB s) : noB (32 :: s) := by
  unfold noB at *
  rw [Lib.index]
  have : List.isPrefixOf [32, 32] (32 :: s) = false := by
    cases s with
    | nil => rfl
    | cons y t =>
      simp only [List.isPrefixOf]
      have : ((32 : UInt8) == y) = false := by simpa using fun e => hs y t rfl e.symm
      rw [this]; simp
  rw [this, h]; rfl
theorem sp_ne {x : UInt8} (h : Lib.isSp x = false) : x ≠ 32 := fun e => by subst e; exact absurd h (by decide)
theorem noB_tok : ∀ (t : List UInt8) {s : List UInt8}, (∀ x ∈ t, Lib.isSp x = false) → noB s → noB (t ++ s)
  | [], s, _, h => h
  | x :: t, s, ht, h => noB_cons (sp_ne (ht x (by simp))) (noB_tok t (fun y hy => ht y (by simp [hy])) h)
theorem noB_tail : ∀ (l : List (List UInt8)), (∀ t ∈ l, tok t) → noB (tailS l)
  | [], _ => rfl
  | t :: l, h => by
    have ht := h t (by simp)
    refine noB_sp (fun x s e => ?_) (noB_tok t ht.2 (noB_tail l (fun y hy => h y (by simp [hy]))))
    obtain ⟨h1, h2⟩ := ht
    cases t with
    | nil => exact absurd rfl h1
    | cons y t =>
      simp only [List.cons_append, List.cons.injEq] at e
      rw [← e.1]
      exact sp_ne (h2 y (by simp))
theorem contains_toks {w : List UInt8} {l : List (List UInt8)} (hw : tok w) (h : ∀ t ∈ l, tok t) : Lib.contains (w ++ tailS l) [32, 32] = false := by
  have : noB (w ++ tailS l) := noB_tok w hw.2 (noB_tail l h)
  unfold Lib.contains
  rw [this]; rfl
/-! how an instruction is shown -/
def wordsL : List (List UInt8) := [[99, 111, 110, 115, 116], [98, 105, 110, 100], [109, 111, 118, 101], [116, 119, 111], [111, 110, 101], [105, 115], [99, 97, 115, 116], [99, 97, 108, 108], [109, 117, 115, 116], [106, 117, 109, 112], [105, 102], [100, 105, 102, 102, 101, 114], [102, 105, 114, 115, 116], [115, 101, 101, 107], [110, 101, 120, 116], [112, 97, 115, 116], [102, 105, 110, 100], [99, 111, 108], [114, 111, 119, 105, 100], [97, 100, 100], [115, 111, 114, 116, 101, 100], [97, 102, 116, 101, 114], [116, 97, 107, 101], [99, 108, 101, 97, 114], [115, 116, 101, 112], [116, 111, 116, 97, 108], [114, 111, 119], [110, 101, 119, 105, 100], [105, 110, 115, 101, 114, 116], [100, 101, 108, 101, 116, 101], [100, 101, 102, 105, 110, 101], [98, 101, 103, 105, 110], [99, 111, 109, 109, 105, 116], [98, 97, 99, 107], [104, 97, 108, 116]]
/-- the word of an instruction: none, where it has none -/
def wordO (o : Int) : List UInt8 := if 1 ≤ o ∧ o ≤ 35 then wordsL.getD (o - 1).toNat [] else []
def wordP (o : Int) : List UInt8 := if wordO o = [] then [111, 112] ++ Lib.itoa o else wordO o
def showP (i : Ins) : List UInt8 := wordP i.op ++ tailS [Lib.itoa i.a, Lib.itoa i.b, Lib.itoa i.c, Lib.itoa i.d]
def okW (t : List UInt8) : Bool := decide (t ≠ []) && (t.all (fun x => !Lib.isSp x) && (decide (t.take 2 ≠ [111, 112]) && (decide (t.length ≤ 7) && t.all (fun x => decide (x.toNat < 128)))))
theorem words_ok : wordsL.all okW = true := by decide +kernel
theorem words_nodup : ∀ k, k < 35 → ∀ j, j < 35 → wordsL.getD k [] = wordsL.getD j [] → k = j := by decide +kernel
theorem words_get {k : Nat} (h : k < 35) : okW (wordsL.getD k []) = true := by
  have hk : k < wordsL.length := h
  rw [List.getD_eq_getElem?_getD, List.getElem?_eq_getElem hk, Option.getD_some]
  exact List.all_eq_true.1 words_ok _ (List.getElem_mem hk)
theorem wordO_in {o : Int} (h : 1 ≤ o ∧ o ≤ 35) : wordO o ≠ [] ∧ (∀ x ∈ wordO o, Lib.isSp x = false) ∧ (wordO o).take 2 ≠ [111, 112] ∧ (wordO o).length ≤ 7 ∧ (∀ x ∈ wordO o, x.toNat < 128) := by
  unfold wordO
  rw [if_pos h]
  have := words_get (k := (o - 1).toNat) (by omega)
  unfold okW at this
  simp only [Bool.and_eq_true, decide_eq_true_eq, List.all_eq_true, Bool.not_eq_true'] at this
  exact ⟨this.1, this.2.1, this.2.2.1, this.2.2.2.1, this.2.2.2.2⟩
theorem wordO_out {o : Int} (h : ¬ (1 ≤ o ∧ o ≤ 35)) : wordO o = [] := by unfold wordO; rw [if_neg h]
theorem wordP_in {o : Int} (h : 1 ≤ o ∧ o ≤ 35) : wordP o = wordO o := by unfold wordP; rw [if_neg (wordO_in h).1]
theorem wordP_out {o : Int} (h : ¬ (1 ≤ o ∧ o ≤ 35)) : wordP o = [111, 112] ++ Lib.itoa o := by unfold wordP; rw [if_pos (wordO_out h)]
theorem tok_word (o : Int) : tok (wordP o) := by
  by_cases h : 1 ≤ o ∧ o ≤ 35
  · rw [wordP_in h]; exact ⟨(wordO_in h).1, (wordO_in h).2.1⟩
  · rw [wordP_out h]
    refine ⟨by simp, fun x hx => ?_⟩
    rcases List.mem_append.1 hx with hx | hx
    · simp only [List.mem_cons, List.not_mem_nil, or_false] at hx
      rcases hx with rfl | rfl <;> decide
    · exact (tok_itoa o).2 x hx
theorem word_inj {m n : Int} (h : wordP m = wordP n) : m = n := by
  by_cases hm : 1 ≤ m ∧ m ≤ 35 <;> by_cases hn : 1 ≤ n ∧ n ≤ 35
  · rw [wordP_in hm, wordP_in hn] at h
    unfold wordO at h
    rw [if_pos hm, if_pos hn] at h
    have := words_nodup _ (by omega) _ (by omega) h
    omega
  · rw [wordP_in hm, wordP_out hn] at h
    exact absurd (by rw [h]; rfl) (wordO_in hm).2.2.1
  · rw [wordP_out hm, wordP_in hn] at h
    exact absurd (by rw [← h]; rfl) (wordO_in hn).2.2.1
  · rw [wordP_out hm, wordP_out hn] at h
    exact itoa_inj (List.append_cancel_left h)
theorem toks_nums (i : Ins) : ∀ t ∈ [Lib.itoa i.a, Lib.itoa i.b, Lib.itoa i.c, Lib.itoa i.d], tok t := by
  intro t ht
  simp only [List.mem_cons, List.not_mem_nil, or_false] at ht
  rcases ht with rfl | rfl | rfl | rfl <;> exact tok_itoa _
theorem fields_show (i : Ins) : Lib.fields (showP i) = [wordP i.op, Lib.itoa i.a, Lib.itoa i.b, Lib.itoa i.c, Lib.itoa i.d] := fields_toks (tok_word _) (toks_nums i)
theorem show_inj {i k : Ins} (h : showP i = showP k) : i = k := by
  have := fields_show i
  rw [h, fields_show k] at this
  simp only [List.cons.injEq, and_true] at this
  obtain ⟨h1, h2, h3, h4, h5⟩ := this
  cases i; cases k
  simp only [Ins.mk.injEq]
  exact ⟨(word_inj h1).symm, (itoa_inj h2).symm, (itoa_inj h3).symm, (itoa_inj h4).symm, (itoa_inj h5).symm⟩
theorem contains_show (i : Ins) : Lib.contains (showP i) [32, 32] = false := contains_toks (tok_word _) (toks_nums i)
theorem itoa_len {n : Int} (h : -9223372036854775808 ≤ n ∧ n ≤ 9223372036854775807) : (Lib.itoa n).length ≤ 21 := Lib.itoa_length_le n h.1 h.2
theorem itoa_ascii (n : Int) : ∀ x ∈ Lib.itoa n, x.toNat < 128 := by
  unfold Lib.itoa
  split
  · intro x hx
    rcases List.mem_cons.1 hx with rfl | hx
    · decide
    · have := (dec_dig _).2 x hx; unfold isDig at this; omega
  · intro x hx
    have := (dec_dig _).2 x hx; unfold isDig at this; omega
theorem word_len {o : Int} (h : 0 ≤ o ∧ o < 256) : (wordP o).length ≤ 23 := by
  by_cases h1 : 1 ≤ o ∧ o ≤ 35
  · rw [wordP_in h1]; have := (wordO_in h1).2.2.2.1; omega
  · rw [wordP_out h1]; have := itoa_len (n := o) ⟨by omega, by omega⟩; simp only [List.length_append, List.length_cons, List.length_nil]; omega
theorem word_ascii (o : Int) : ∀ x ∈ wordP o, x.toNat < 128 := by
  by_cases h1 : 1 ≤ o ∧ o ≤ 35
  · rw [wordP_in h1]; exact (wordO_in h1).2.2.2.2
  · rw [wordP_out h1]
    intro x hx
    rcases List.mem_append.1 hx with hx | hx
    · simp only [List.mem_cons, List.not_mem_nil, or_false] at hx
      rcases hx with rfl | rfl <;> decide
    · exact itoa_ascii o x hx
def numsL (i : Ins) : List (List UInt8) := [Lib.itoa i.a, Lib.itoa i.b, Lib.itoa i.c, Lib.itoa i.d]
/-- the word and some numbers -/
def showK (i : Ins) (k : Nat) : List UInt8 := wordP i.op ++ tailS ((numsL i).take k)
theorem showK_zero (i : Ins) : showK i 0 = wordP i.op := by simp [showK, tailS]
theorem showK_four (i : Ins) : showK i 4 = showP i := rfl
theorem tailS_append (l : List (List UInt8)) (t : List UInt8) : tailS (l ++ [t]) = tailS l ++ 32 :: t := by
  induction l with
  | nil => simp [tailS]
  | cons x l ih => simp [tailS, ih]
theorem showK_step (i : Ins) {k : Nat} {t : List UInt8} (h : (numsL i)[k]? = some t) : showK i (k + 1) = showK i k ++ ([32] ++ t) := by
  unfold showK
  rw [List.take_add_one, h, Option.toList_some, tailS_append, List.append_assoc]; rfl
theorem tailS_len : ∀ (l : List (List UInt8)) (n : Nat), (∀ t ∈ l, t.length ≤ n) → (tailS l).length ≤ l.length * (n + 1)
  | [], n, _ => by simp [tailS]
  | t :: l, n, h => by
    have h1 := tailS_len l n (fun y hy => h y (by simp [hy]))
    have h2 := h t (by simp)
    simp only [tailS, List.length_cons, List.length_append, Nat.add_mul] at *
    omega
structure okI (i : Ins) : Prop where
  op : 0 ≤ i.op ∧ i.op < 256
  a : -9223372036854775808 ≤ i.a ∧ i.a ≤ 9223372036854775807
  b : -9223372036854775808 ≤ i.b ∧ i.b ≤ 9223372036854775807
  c : -9223372036854775808 ≤ i.c ∧ i.c ≤ 9223372036854775807
  d : -9223372036854775808 ≤ i.d ∧ i.d ≤ 9223372036854775807
theorem showK_len {i : Ins} (h : okI i) {k : Nat} (hk : k ≤ 4) : (showK i k).length ≤ 111 := by
  have h1 := word_len h.op
  have h2 := tailS_len ((numsL i).take k) 21 (fun t ht => by
    have ht := List.mem_of_mem_take ht
    simp only [numsL, List.mem_cons, List.not_mem_nil, or_false] at ht
    rcases ht with rfl | rfl | rfl | rfl
    · exact itoa_len h.a
    · exact itoa_len h.b
    · exact itoa_len h.c
    · exact itoa_len h.d)
  have h3 : ((numsL i).take k).length ≤ 4 := by rw [List.length_take]; omega
  have h4 := Nat.mul_le_mul_right 22 h3
  unfold showK
  rw [List.length_append]
  omega
theorem tailS_ascii : ∀ (l : List (List UInt8)), (∀ t ∈ l, ∀ x ∈ t, x.toNat < 128) → ∀ x ∈ tailS l, x.toNat < 128
  | [], _, x, hx => by simp [tailS] at hx
  | t :: l, h, x, hx => by
    rcases List.mem_cons.1 hx with rfl | hx
    · decide
    · rcases List.mem_append.1 hx with hx | hx
      · exact h t (by simp) x hx
      · exact tailS_ascii l (fun y hy => h y (by simp [hy])) x hx
theorem show_ascii (i : Ins) : ∀ x ∈ showP i, x.toNat < 128 := by
  intro x hx
  rcases List.mem_append.1 hx with hx | hx
  · exact word_ascii _ x hx
  · refine tailS_ascii _ (fun t ht => ?_) x hx
    simp only [List.mem_cons, List.not_mem_nil, or_false] at ht
    rcases ht with rfl | rfl | rfl | rfl <;> exact itoa_ascii _
theorem pre_op {i : Ins} (h : wordO i.op = []) : Lib.hasPrefix (showP i) [111, 112] = true := by
  unfold Lib.hasPrefix showP wordP
  rw [if_pos h, List.isPrefixOf_iff_prefix]
  exact ⟨Lib.itoa i.op ++ tailS [Lib.itoa i.a, Lib.itoa i.b, Lib.itoa i.c, Lib.itoa i.d], by simp⟩
theorem pre_word {i : Ins} (h : wordO i.op ≠ []) : Lib.hasPrefix (showP i) (wordO i.op ++ [32]) = true := by
  unfold Lib.hasPrefix showP wordP
  rw [if_neg h, List.isPrefixOf_iff_prefix]
  exact ⟨Lib.itoa i.a ++ tailS [Lib.itoa i.b, Lib.itoa i.c, Lib.itoa i.d], by simp [tailS]⟩
theorem show_eq (i k : Ins) : decide (showP i = showP k) = (decide (i.op = k.op) && (decide (i.a = k.a) && (decide (i.b = k.b) && (decide (i.c = k.c) && (decide (i.d = k.d) && true))))) := by
  by_cases h : i = k
  · subst h; simp
  · rw [decide_eq_false (fun e => h (show_inj e))]
    symm
    rw [Bool.eq_false_iff]
    intro e
    simp only [Bool.and_eq_true, decide_eq_true_eq, and_true] at e
    obtain ⟨h1, h2, h3, h4, h5⟩ := e
    exact h (by cases i; cases k; simp_all)
end K15
/- Layer 3: an argument of values. -/
set_option linter.unusedVariables false
namespace Go.Proofs.YtaifphjenebgoaaDoor
open Go Go.Sx R1
theorem opens_V : Opens Tryd.prog 51 KV good := by
  intro H enc w fuel cs x hx
  obtain ⟨hl, hf⟩ := opens_fields (by kernel_rfl) hx
  obtain ⟨k, hk, gk⟩ := hf 0 (ft := 49) (off := 0) (K := Kd.int .u8) (by kernel_rfl) (by kernel_rfl) (opens_int (by kernel_rfl))
  obtain ⟨n, hn, gn⟩ := hf 1 (ft := 2) (off := 1) (K := Kd.int .i64) (by kernel_rfl) (by kernel_rfl) (opens_int (by kernel_rfl))
  obtain ⟨s, hs, gs⟩ := hf 2 (ft := 9) (off := 2) (K := Kd.str) (by kernel_rfl) (by kernel_rfl) (opens_str (by kernel_rfl))
  have hl3 : cs.length = 3 := hl.trans (by kernel_rfl)
  match cs, hl3 with
  | [a, b, c], _ =>
    have hk : [a] = [.int .u8 k] := hk
    have hn : [b] = [.int .i64 n] := hn
    have hs : [c] = [.string s] := hs
    obtain ⟨m, rfl, hm⟩ := u8_nat gk
    exact ⟨⟨(m : Int), n, s⟩, by cases hk; cases hn; cases hs; rfl, ⟨by dsimp only; omega, by dsimp only; omega⟩, i64_range gn, gs⟩
theorem opens_flag : Opens Tryd.prog 4 Kd.bool (fun _ => True) := opens_bool (by kernel_rfl)
end Go.Proofs.YtaifphjenebgoaaDoor
/- Layer 15: an argument that is a program. -/
set_option linter.unusedVariables false
set_option linter.unusedSimpArgs false
namespace Go.Proofs.YtaifphjenebgoaaDoor
open Go Go.Sx R1 K15
def isI (x : Int) : Prop := -9223372036854775808 ≤ x ∧ x ≤ 9223372036854775807
def gCur (c : Cur) : Prop := c.name.size ≤ maxLen
def gSrt (s : Srt) : Prop := s.desc.length ≤ maxLen ∧ isI s.cols
def gTot (t : Tot) : Prop := t.fn.size ≤ maxLen
def gIns (i : Ins) : Prop := (0 ≤ i.op ∧ i.op < 256) ∧ isI i.a ∧ isI i.b ∧ isI i.c ∧ isI i.d
theorem opens_Cur : Opens Tryd.prog 53 KCur gCur := by
  intro H enc w fuel cs x hx
  obtain ⟨hl, hf⟩ := opens_fields (by kernel_rfl) hx
  obtain ⟨a, ha, g1⟩ := hf 0 (ft := 9) (off := 0) (K := Kd.str) (by kernel_rfl) (by kernel_rfl) (opens_str (by kernel_rfl))
  obtain ⟨b, hb, _⟩ := hf 1 (ft := 4) (off := 1) (K := Kd.bool) (by kernel_rfl) (by kernel_rfl) (opens_bool (by kernel_rfl))
  obtain ⟨c, hc, _⟩ := hf 2 (ft := 4) (off := 2) (K := Kd.bool) (by kernel_rfl) (by kernel_rfl) (opens_bool (by kernel_rfl))
  have hl3 : cs.length = 3 := hl.trans (by kernel_rfl)
  match cs, hl3 with
  | [x, y, z], _ =>
    have ha : [x] = [.string a] := ha
    have hb : [y] = [.bool b] := hb
    have hc : [z] = [.bool c] := hc
    exact ⟨⟨a, b, c⟩, by cases ha; cases hb; cases hc; rfl, g1⟩
theorem opens_Tot : Opens Tryd.prog 58 KTot gTot := by
  intro H enc w fuel cs x hx
  obtain ⟨hl, hf⟩ := opens_fields (by kernel_rfl) hx
  obtain ⟨a, ha, g1⟩ := hf 0 (ft := 9) (off := 0) (K := Kd.str) (by kernel_rfl) (by kernel_rfl) (opens_str (by kernel_rfl))
  obtain ⟨b, hb, _⟩ := hf 1 (ft := 4) (off := 1) (K := Kd.bool) (by kernel_rfl) (by kernel_rfl) (opens_bool (by kernel_rfl))
  have hl3 : cs.length = 2 := hl.trans (by kernel_rfl)
  match cs, hl3 with
  | [x, y], _ =>
    have ha : [x] = [.string a] := ha
    have hb : [y] = [.bool b] := hb
    exact ⟨⟨a, b⟩, by cases ha; cases hb; rfl, g1⟩
theorem opens_Srt : Opens Tryd.prog 56 KSrt gSrt := by
  intro H enc w fuel cs x hx
  obtain ⟨hl, hf⟩ := opens_fields (by kernel_rfl) hx
  obtain ⟨a, ha, g1, _⟩ := hf 0 (ft := 54) (off := 0) (K := Kd.slice Kd.bool (by decide)) (by kernel_rfl) (by kernel_rfl) (opens_slice (by kernel_rfl) (by kernel_rfl) (by decide) (opens_bool (t := 4) (by kernel_rfl)))
  obtain ⟨b, hb, g2⟩ := hf 1 (ft := 3) (off := 1) (K := Kd.int .i64) (by kernel_rfl) (by kernel_rfl) (opens_int (by kernel_rfl))
  obtain ⟨c, hc, _⟩ := hf 2 (ft := 4) (off := 2) (K := Kd.bool) (by kernel_rfl) (by kernel_rfl) (opens_bool (by kernel_rfl))
  have hl3 : cs.length = 3 := hl.trans (by kernel_rfl)
  match cs, hl3 with
  | [x, y, z], _ =>
    obtain ⟨A, d, ha, hd, hi⟩ := ha
    have ha : [x] = [.slice A a.length d] := ha
    have hb : [y] = [.int .i64 b] := hb
    have hc : [z] = [.bool c] := hc
    exact ⟨⟨a, b, c⟩, ⟨A, d, by cases ha; cases hb; cases hc; rfl, hd, hi⟩, g1, i64_range g2⟩
theorem opens_Ins : Opens Tryd.prog 38 KIns gIns := by
  intro H enc w fuel cs x hx
  obtain ⟨hl, hf⟩ := opens_fields (by kernel_rfl) hx
  obtain ⟨a, ha, g1⟩ := hf 0 (ft := 36) (off := 0) (K := Kd.int .u8) (by kernel_rfl) (by kernel_rfl) (opens_int (by kernel_rfl))
  obtain ⟨b, hb, g2⟩ := hf 1 (ft := 3) (off := 1) (K := Kd.int .i64) (by kernel_rfl) (by kernel_rfl) (opens_int (by kernel_rfl))
  obtain ⟨c, hc, g3⟩ := hf 2 (ft := 3) (off := 2) (K := Kd.int .i64) (by kernel_rfl) (by kernel_rfl) (opens_int (by kernel_rfl))
  obtain ⟨d, hd, g4⟩ := hf 3 (ft := 3) (off := 3) (K := Kd.int .i64) (by kernel_rfl) (by kernel_rfl) (opens_int (by kernel_rfl))
  obtain ⟨e, he, g5⟩ := hf 4 (ft := 3) (off := 4) (K := Kd.int .i64) (by kernel_rfl) (by kernel_rfl) (opens_int (by kernel_rfl))
  have hl3 : cs.length = 5 := hl.trans (by kernel_rfl)
  match cs, hl3 with
  | [x, y, z, u, v], _ =>
    have ha : [x] = [.int .u8 a] := ha
    have hb : [y] = [.int .i64 b] := hb
    have hc : [z] = [.int .i64 c] := hc
    have hd : [u] = [.int .i64 d] := hd
    have he : [v] = [.int .i64 e] := he
    obtain ⟨m, rfl, hm⟩ := u8_nat g1
    exact ⟨⟨(m : Int), b, c, d, e⟩, by cases ha; cases hb; cases hc; cases hd; cases he; rfl, ⟨by dsimp only; omega, by dsimp only; omega⟩, i64_range g2, i64_range g3, i64_range g4, i64_range g5⟩
/-- what an argument is, by its type alone -/
structure gProg (p : Prog) : Prop where
  ver : isI p.ver
  regs : isI p.regs
  binds : isI p.binds
  names : ∀ s ∈ p.names, s.size ≤ maxLen
  consts : ∀ v ∈ p.consts, good v
  curs : ∀ c ∈ p.curs, gCur c
  sorts : ∀ s ∈ p.sorts, gSrt s
  tots : ∀ t ∈ p.tots, gTot t
  code : ∀ i ∈ p.code, gIns i
theorem okWide_struct {P : Program} {w : World} {r : Reach} {base : Nat} {t : TypeId} {fs : Array Field} {v : Value} (ht : P.underlying t = some (.struct fs)) (h : Value.okWide P w r base t v) : ∃ cs, v = .agg cs ∧ cs.size = P.cellsOf t := by
  unfold Value.okWide at h
  rw [ht] at h
  cases v <;> simp at h
  exact ⟨_, rfl, h.1⟩
set_option maxRecDepth 10000 in
theorem arg_prog {H : Type} {enc : TypeId × Value → H} {W : World} {r : Reach} {base : Nat} {v : Value} {d : DataW H} {ps : List MemPlace}
    (hval : Value.okWide Tryd.prog W r base 29 v) (h : DataW.Trod enc Tryd.prog W 0 (fun _ => true) true 29 v d ps) : ∃ p a, v = pagg p a ∧ PIm W p a ∧ gProg p := by
  obtain ⟨arr, rfl, hs⟩ := okWide_struct (fs := sfs Tryd.prog 29) (by kernel_rfl) hval
  obtain ⟨fuel, hf⟩ := h
  obtain ⟨hl, hf⟩ := opens_fields (by kernel_rfl) hf
  obtain ⟨ver, h0, g0⟩ := hf 0 (ft := 3) (off := 0) (K := Kd.int .i64) (by kernel_rfl) (by kernel_rfl) (opens_int (by kernel_rfl))
  obtain ⟨regs, h1, g1⟩ := hf 1 (ft := 3) (off := 1) (K := Kd.int .i64) (by kernel_rfl) (by kernel_rfl) (opens_int (by kernel_rfl))
  obtain ⟨binds, h2, g2⟩ := hf 2 (ft := 3) (off := 2) (K := Kd.int .i64) (by kernel_rfl) (by kernel_rfl) (opens_int (by kernel_rfl))
  obtain ⟨names, ⟨A3, c3, h3, k3, i3⟩, m3, g3⟩ := hf 3 (ft := 22) (off := 3) (K := Kd.slice Kd.str KStr_pos) (by kernel_rfl) (by kernel_rfl) (opens_slice (by kernel_rfl) (by kernel_rfl) KStr_pos (opens_str (t := 9) (by kernel_rfl)))
  obtain ⟨consts, ⟨A4, c4, h4, k4, i4⟩, m4, g4⟩ := hf 4 (ft := 23) (off := 4) (K := Kd.slice KV KV_pos) (by kernel_rfl) (by kernel_rfl) (opens_slice (by kernel_rfl) (by kernel_rfl) KV_pos opens_V)
  obtain ⟨curs, ⟨A5, c5, h5, k5, i5⟩, m5, g5⟩ := hf 5 (ft := 24) (off := 5) (K := Kd.slice KCur KCur_pos) (by kernel_rfl) (by kernel_rfl) (opens_slice (by kernel_rfl) (by kernel_rfl) KCur_pos opens_Cur)
  obtain ⟨sorts, ⟨A6, c6, h6, k6, i6⟩, m6, g6⟩ := hf 6 (ft := 25) (off := 6) (K := Kd.slice KSrt KSrt_pos) (by kernel_rfl) (by kernel_rfl) (opens_slice (by kernel_rfl) (by kernel_rfl) KSrt_pos opens_Srt)
  obtain ⟨tots, ⟨A7, c7, h7, k7, i7⟩, m7, g7⟩ := hf 7 (ft := 26) (off := 7) (K := Kd.slice KTot KTot_pos) (by kernel_rfl) (by kernel_rfl) (opens_slice (by kernel_rfl) (by kernel_rfl) KTot_pos opens_Tot)
  obtain ⟨code, ⟨A8, c8, h8, k8, i8⟩, m8, g8⟩ := hf 8 (ft := 27) (off := 8) (K := Kd.slice KIns KIns_pos) (by kernel_rfl) (by kernel_rfl) (opens_slice (by kernel_rfl) (by kernel_rfl) KIns_pos opens_Ins)
  have hl9 : arr.size = 9 := hs.trans (by kernel_rfl)
  obtain ⟨cs⟩ := arr
  have hl9 : cs.length = 9 := hl9
  match cs, hl9 with
  | [x0, x1, x2, x3, x4, x5, x6, x7, x8], _ =>
    have h0 : [x0] = [.int .i64 ver] := h0
    have h1 : [x1] = [.int .i64 regs] := h1
    have h2 : [x2] = [.int .i64 binds] := h2
    have h3 : [x3] = [.slice A3 names.length c3] := h3
    have h4 : [x4] = [.slice A4 consts.length c4] := h4
    have h5 : [x5] = [.slice A5 curs.length c5] := h5
    have h6 : [x6] = [.slice A6 sorts.length c6] := h6
    have h7 : [x7] = [.slice A7 tots.length c7] := h7
    have h8 : [x8] = [.slice A8 code.length c8] := h8
    exact ⟨⟨ver, regs, binds, names, consts, curs, sorts, tots, code⟩, ⟨A3, c3, A4, c4, A5, c5, A6, c6, A7, c7, A8, c8⟩, by cases h0; cases h1; cases h2; cases h3; cases h4; cases h5; cases h6; cases h7; cases h8; rfl,
      ⟨i3, i4, i5, i6, i7, i8, m3, m4, m5, m6, m7, m8, k8⟩, ⟨i64_range g0, i64_range g1, i64_range g2, g3, g4, g5, g6, g7, g8⟩⟩
end Go.Proofs.YtaifphjenebgoaaDoor
/- Contracts of the library at this program, laid by the kit. -/
namespace Go.Proofs
open Go.Shelf
def Tryd.laysM171_ren : Go.Shelf.Ren := ⟨fun | 171 => 22 | 243 => 62 | 246 => 78 | 283 => 87 | 284 => 88 | 285 => 89 | 286 => 90 | 129 => 94 | 317 => 93 | 318 => 95 | 319 => 96 | 320 => 97 | 337 => 98 | 338 => 99 | n => n, fun | 3 => 3 | 9 => 9 | 2 => 2 | 4 => 4 | 171 => 139 | 0 => 0 | 53 => 108 | 37 => 45 | 5 => 5 | 173 => 142 | 212 => 149 | 51 => 103 | 20 => 20 | 213 => 150 | 46 => 137 | 232 => 154 | 233 => 155 | n => n, fun | 17 => 3 | 18 => 4 | 19 => 5 | n => n⟩
theorem Tryd.laysM171 : Go.Proofs.LaysM.n171 Tryd.prog Tryd.laysM171_ren := {
  mixed := by kernel_rfl
  f129 := Tryd.func94.trans (congrArg some (by kernel_rfl))
  f171 := Tryd.func22.trans (congrArg some (by kernel_rfl))
  f243 := Tryd.func62.trans (congrArg some (by kernel_rfl))
  f246 := Tryd.func78.trans (congrArg some (by kernel_rfl))
  f283 := Tryd.func87.trans (congrArg some (by kernel_rfl))
  f284 := Tryd.func88.trans (congrArg some (by kernel_rfl))
  f285 := Tryd.func89.trans (congrArg some (by kernel_rfl))
  f286 := Tryd.func90.trans (congrArg some (by kernel_rfl))
  f317 := Tryd.func93.trans (congrArg some (by kernel_rfl))
  f318 := Tryd.func95.trans (congrArg some (by kernel_rfl))
  f319 := Tryd.func96.trans (congrArg some (by kernel_rfl))
  f320 := Tryd.func97.trans (congrArg some (by kernel_rfl))
  f337 := Tryd.func98.trans (congrArg some (by kernel_rfl))
  f338 := Tryd.func99.trans (congrArg some (by kernel_rfl))
  t0 := Tryd.underlying0
  a0 := Tryd.isAgg0
  z0 := Tryd.sizeOf0
  v0 := Tryd.zeroValue0
  t2 := Tryd.underlying2
  a2 := Tryd.isAgg2
  z2 := Tryd.sizeOf2
  v2 := Tryd.zeroValue2
  t3 := Tryd.underlying3
  a3 := Tryd.isAgg3
  z3 := Tryd.sizeOf3
  v3 := Tryd.zeroValue3
  t4 := Tryd.underlying4
  a4 := Tryd.isAgg4
  z4 := Tryd.sizeOf4
  v4 := Tryd.zeroValue4
  t5 := Tryd.underlying5
  a5 := Tryd.isAgg5
  z5 := Tryd.sizeOf5
  v5 := Tryd.zeroValue5
  t9 := Tryd.underlying9
  a9 := Tryd.isAgg9
  z9 := Tryd.sizeOf9
  v9 := Tryd.zeroValue9
  t20 := Tryd.underlying20
  a20 := Tryd.isAgg20
  z20 := Tryd.sizeOf20
  v20 := Tryd.zeroValue20
  t37 := Tryd.underlying45
  a37 := Tryd.isAgg45
  z37 := Tryd.sizeOf45
  v37 := Tryd.zeroValue45
  t46 := Tryd.underlying137
  a46 := Tryd.isAgg137
  z46 := Tryd.sizeOf137
  v46 := Tryd.zeroValue137
  t51 := Tryd.underlying103
  a51 := Tryd.isAgg103
  z51 := Tryd.sizeOf103
  v51 := Tryd.zeroValue103
  t53 := Tryd.underlying108
  a53 := Tryd.isAgg108
  z53 := Tryd.sizeOf108
  v53 := Tryd.zeroValue108
  t171 := Tryd.underlying139
  a171 := Tryd.isAgg139
  z171 := Tryd.sizeOf139
  v171 := Tryd.zeroValue139
  t173 := Tryd.underlying142
  a173 := Tryd.isAgg142
  z173 := Tryd.sizeOf142
  v173 := Tryd.zeroValue142
  t212 := Tryd.underlying149
  a212 := Tryd.isAgg149
  z212 := Tryd.sizeOf149
  v212 := Tryd.zeroValue149
  t213 := Tryd.underlying150
  a213 := Tryd.isAgg150
  z213 := Tryd.sizeOf150
  t232 := Tryd.underlying154
  a232 := Tryd.isAgg154
  z232 := Tryd.sizeOf154
  v232 := Tryd.zeroValue154
  t233 := Tryd.underlying155
  a233 := Tryd.isAgg155
  z233 := Tryd.sizeOf155
  v233 := Tryd.zeroValue155
  g17 := by kernel_rfl
  g18 := by kernel_rfl
  g19 := by kernel_rfl
  i0 := by kernel_rfl
  i2 := by kernel_rfl
  i3 := by kernel_rfl
  i4 := by kernel_rfl
  i5 := by kernel_rfl
  i9 := by kernel_rfl
  i20 := by kernel_rfl
  i37 := by kernel_rfl
  i46 := by kernel_rfl
  i51 := by kernel_rfl
  i53 := by kernel_rfl
  i171 := by kernel_rfl
  i173 := by kernel_rfl
  i212 := by kernel_rfl
  i232 := by kernel_rfl
  i233 := by kernel_rfl
  m17 := by kernel_rfl
  m18 := by kernel_rfl
  m19 := by kernel_rfl }
open Go.RowKit Go.Sort Go.Lib in
/-- strconv.Itoa: "Itoa is equivalent to FormatInt(int64(i), 10).": i's DECIMAL NUMERAL ('Lib.itoa': a '-' where i is negative, then the digits), FOR EVERY int. The world behind the call: the world before it, new blocks behind the heap (the library's 'var a [24]byte'), draws. (LAID: no walk: one application.) -/
theorem Tryd.strconv_Itoa (n : Int) (h0 : -9223372036854775808 ≤ n) (h1 : n ≤ 9223372036854775807) (w : World) (htab : Lib.TabIs Tryd.prog w "internal/strconv.uint64pow10" .u64 Lib.pow10Tab) :
    Calls Tryd.prog 22 #[.int .i64 n] w fun e w' => e = .returned (.string ⟨(Lib.itoa n).toArray⟩) ∧ ∃ k os, w' = grow (w.drewN k) os := Any.strconv_Itoa Tryd.laysM171 n h0 h1 w htab
def Tryd.lays144_ren : Go.Shelf.Ren := ⟨fun | 144 => 13 | 143 => 25 | 219 => 64 | 217 => 81 | 225 => 82 | 224 => 83 | 267 => 84 | 266 => 91 | 314 => 92 | n => n, fun | 9 => 9 | 4 => 4 | 3 => 3 | 5 => 5 | 46 => 137 | 146 => 146 | 51 => 103 | n => n, fun | 1 => 2 | n => n⟩
theorem Tryd.lays144 : Go.Proofs.Lays.n144 Tryd.prog Tryd.lays144_ren := {
  mixed := by kernel_rfl
  f143 := Tryd.func25.trans (congrArg some (by kernel_rfl))
  f144 := Tryd.func13.trans (congrArg some (by kernel_rfl))
  f217 := Tryd.func81.trans (congrArg some (by kernel_rfl))
  f219 := Tryd.func64.trans (congrArg some (by kernel_rfl))
  f224 := Tryd.func83.trans (congrArg some (by kernel_rfl))
  f225 := Tryd.func82.trans (congrArg some (by kernel_rfl))
  f266 := Tryd.func91.trans (congrArg some (by kernel_rfl))
  f267 := Tryd.func84.trans (congrArg some (by kernel_rfl))
  f314 := Tryd.func92.trans (congrArg some (by kernel_rfl))
  t3 := Tryd.underlying3
  a3 := Tryd.isAgg3
  z3 := Tryd.sizeOf3
  v3 := Tryd.zeroValue3
  t4 := Tryd.underlying4
  a4 := Tryd.isAgg4
  z4 := Tryd.sizeOf4
  v4 := Tryd.zeroValue4
  t5 := Tryd.underlying5
  a5 := Tryd.isAgg5
  z5 := Tryd.sizeOf5
  v5 := Tryd.zeroValue5
  t9 := Tryd.underlying9
  a9 := Tryd.isAgg9
  z9 := Tryd.sizeOf9
  v9 := Tryd.zeroValue9
  t46 := Tryd.underlying137
  a46 := Tryd.isAgg137
  z46 := Tryd.sizeOf137
  v46 := Tryd.zeroValue137
  t51 := Tryd.underlying103
  a51 := Tryd.isAgg103
  z51 := Tryd.sizeOf103
  v51 := Tryd.zeroValue103
  t146 := Tryd.underlying146
  a146 := Tryd.isAgg146
  z146 := Tryd.sizeOf146
  v146 := Tryd.zeroValue146
  g1 := by kernel_rfl }
open Go.RowKit Go.Lib in
/-- strings.Contains: "Contains reports whether substr is within s.": AT A substr OF ONE BYTE c: IT RETURNS 'decide (0 ≤ Lib.indexByte s c)'; the world is as it was. (LAID: no walk: one application.) -/
theorem Tryd.strings_Contains_one (s : ByteArray) (c : UInt8) (w : World) :
    Calls Tryd.prog 13 #[.string s, .string ⟨#[c]⟩] w fun e w' => e = .returned (.bool (decide (0 ≤ Lib.indexByte s.data.toList c))) ∧ w' = w := Any.strings_Contains_one Tryd.lays144 s c w
open Go.RowKit Go.Lib in
/-- strings.Contains: "Contains reports whether substr is within s.": IT RETURNS 'Lib.contains s substr'; the world is as it was. (LAID: no walk: one application.) -/
theorem Tryd.strings_Contains (s sub : ByteArray) (m : Int) (w : World) (hs : s.size < 4294967281) (hm : w.cell? ⟨2, 0, none⟩ = some (.int .i64 m)) :
    Calls Tryd.prog 13 #[.string s, .string sub] w fun e w' => e = .returned (.bool (Lib.contains s.data.toList sub.data.toList)) ∧ w' = w := Any.strings_Contains Tryd.lays144 s sub m w hs hm
def Tryd.lays99_ren : Go.Shelf.Ren := ⟨fun | 99 => 15 | 206 => 27 | n => n, fun | 9 => 9 | 4 => 4 | 3 => 3 | n => n, fun | n => n⟩
theorem Tryd.lays99 : Go.Proofs.Lays.n99 Tryd.prog Tryd.lays99_ren := {
  mixed := by kernel_rfl
  f99 := Tryd.func15.trans (congrArg some (by kernel_rfl))
  f206 := Tryd.func27.trans (congrArg some (by kernel_rfl))
  t3 := Tryd.underlying3
  a3 := Tryd.isAgg3
  z3 := Tryd.sizeOf3
  v3 := Tryd.zeroValue3
  t4 := Tryd.underlying4
  a4 := Tryd.isAgg4
  z4 := Tryd.sizeOf4
  v4 := Tryd.zeroValue4
  t9 := Tryd.underlying9
  a9 := Tryd.isAgg9
  z9 := Tryd.sizeOf9
  v9 := Tryd.zeroValue9 }
open Go.RowKit Go.Lib in
/-- strings.HasPrefix: "HasPrefix reports whether the string s begins with prefix.": IT RETURNS 'Lib.hasPrefix s prefix'; the world is as it was. (LAID: no walk: one application.) -/
theorem Tryd.strings_HasPrefix (s p : ByteArray) (w : World) :
    Calls Tryd.prog 15 #[.string s, .string p] w fun e w' => e = .returned (.bool (Lib.hasPrefix s.data.toList p.data.toList)) ∧ w' = w := Any.strings_HasPrefix Tryd.lays99 s p w
end Go.Proofs
/- Layer 15: CodeShows. -/
set_option linter.unusedVariables false
set_option linter.unusedSimpArgs false
namespace Go.Proofs.YtaifphjenebgoaaDoor
open Go Go.Sx R1 K15
/-- the table of powers of ten lies in the world -/
def Tab10 (w : World) : Prop := Lib.TabIs Tryd.prog w "internal/strconv.uint64pow10" .u64 Lib.pow10Tab
theorem Tab10.ext {w w' : World} (h : Tab10 w) (e : Ext w w') : Tab10 w' := by
  unfold Tab10 Lib.TabIs World.var? at *
  cases hg : Tryd.prog.globalNamed "internal/strconv.uint64pow10" with
  | none => rw [hg] at h; cases h
  | some g =>
    rw [hg] at h
    simp only [Option.bind_some] at h ⊢
    cases hb : w.heap[g]? with
    | none => rw [hb] at h; cases h
    | some o =>
      rw [(e.block g (Array.getElem?_eq_some_iff.1 hb).1 (fun h => h)), hb]
      rw [hb] at h
      exact h
/-- a number lies where the library's bound does -/
def Mx (w : World) : Prop := ∃ m, w.cell? ⟨2, 0, none⟩ = some (.int .i64 m)
theorem Mx.ext {w w' : World} (h : Mx w) (e : Ext w w') : Mx w' := by
  obtain ⟨m, h⟩ := h
  exact ⟨m, Fr.cell e (fun h => h) h⟩
theorem growExt (w : World) (k : Nat) (os : Array Obj) : Ext w (Sort.grow (w.drewN k) os) := by
  refine ⟨rfl, rfl, rfl, by simp [Sort.grow, World.drewN], fun q hq _ => ?_⟩
  simp only [Sort.grow, World.drewN]
  rw [Array.getElem?_append_left hq]
theorem bs_app (a b : List UInt8) : bs a ++ bs b = bs (a ++ b) := by
  apply ByteArray.ext
  simp [bs]
theorem size_bs (l : List UInt8) : (bs l).size = l.length := by simp [bs, ByteArray.size]
theorem ItoaW_spec {w : World} (h10 : Tab10 w) (n : Int) (hn : -9223372036854775808 ≤ n ∧ n ≤ 9223372036854775807) : CallsV Tryd.prog 22 #[.int .i64 n] w fun r w' => r = .string (bs (Lib.itoa n)) ∧ Ext w w' := by
  refine Calls.mono (Tryd.strconv_Itoa n hn.1 hn.2 w h10) ?_
  rintro e w' ⟨he, k, os, rfl⟩
  exact ⟨_, he, rfl, growExt w k os⟩
theorem oFields : Lib.fields (sb oWords) = wordsL := by decide +kernel
theorem Word_spec {w : World} (hT : Tab w) {o : Int} (ho : 0 ≤ o ∧ o < 256) : CallsV Tryd.prog 14 #[.int .u8 o] w fun r w' => r = .string (bs (wordO o)) ∧ Ext w w' := by
  refine code_Word.calls okay ?_
  unfold code_Word.W
  rw [wi o (by omega) (by omega), wi (o - 1) (by omega) (by omega)]
  refine (named_spec hT oWords (by decide +kernel) oAscii (o - 1)).mono ?_
  rw [oFields]
  rintro _ w1 ⟨rfl, e⟩
  refine ⟨_, _, rfl, ?_, e⟩
  have hl : wordsL.length = 35 := rfl
  unfold nth wordO
  rw [hl]
  by_cases h : 1 ≤ o ∧ o ≤ 35
  · rw [if_neg (by omega), if_pos h]
  · rw [if_pos (by omega), if_neg h]
theorem step_ok {i : Ins} (g : okI i) {k : Nat} {t : List UInt8} (hk : k < 4) (h : (numsL i)[k]? = some t) :
    (ByteArray.mk #[32]).size + (bs t).size ≤ 9223372036854775807 ∧ (bs (showK i k)).size + (ByteArray.mk #[32] ++ bs t).size ≤ 9223372036854775807 ∧ bs (showK i k) ++ (ByteArray.mk #[32] ++ bs t) = bs (showK i (k + 1)) := by
  have e : (ByteArray.mk #[32] ++ bs t) = bs ([32] ++ t) := bs_app [32] t
  have h1 := showK_len g (show k + 1 ≤ 4 by omega)
  rw [showK_step i h] at h1 ⊢
  rw [e, bs_app, size_bs, size_bs, size_bs, show (ByteArray.mk #[32]).size = 1 by rfl]
  simp only [List.length_append, List.length_cons, List.length_nil] at *
  exact ⟨by omega, by omega, trivial⟩
theorem Show_spec {w : World} {i : Ins} (hT : Tab w) (h10 : Tab10 w) (gi : okI i) : CallsV Tryd.prog 11 #[.agg #[.int .u8 i.op, .int .i64 i.a, .int .i64 i.b, .int .i64 i.c, .int .i64 i.d]] w fun r w' => r = .string (bs (showP i)) ∧ Ext w w' := by
  have go := gi.op
  refine code_Show.calls okay ?_
  unfold code_Show.W
  intro g w1 f
  have b : Blk w1 g (insC i) := f.blk
  repeat (first | refine ⟨_, Blk.cell (b) (by rfl), ?_⟩ | refine ⟨_, _, _, Blk.cell (b) (by rfl), ?_⟩)
  refine (Word_spec (hT.ext f.ext) gi.op).mono ?_
  rintro _ w2 ⟨rfl, k2⟩
  have e2 := f.ext.trans' k2
  have b := b.ext k2
  clear f
  refine ⟨_, rfl, fun x u => x = bs (wordP i.op) ∧ Ext w2 u, ?_, brS (fun h => ?_) (fun h => ?_)⟩
  · rintro x u ⟨rfl, e⟩
    repeat (first | refine ⟨_, Blk.cell (b.ext e) (by rfl), ?_⟩ | refine ⟨_, _, _, Blk.cell (b.ext e) (by rfl), ?_⟩)
    have eu := e2.trans' e
    refine ⟨fun x y v => ∃ k : Nat, k ≤ 4 ∧ y = (k : Int) ∧ x = bs (showK i k) ∧ Ext u v, fun x y v => (4 - y).toNat, ⟨0, by omega, rfl, by rw [showK_zero], .refl _ _⟩, ?_⟩
    rintro x _ v ⟨k, hk, rfl, rfl, ev⟩
    have h10v := h10.ext (eu.trans' ev)
    refine brd (fun hlt => ⟨⟨by omega, by omega⟩, ?_⟩) (fun hge => ?_)
    · refine brd (fun h => ?_) (fun n0 => brd (fun h => ?_) (fun n1 => brd (fun h => ?_) (fun n2 => brd (fun h => ?_) (fun n3 => by omega))))
      · obtain rfl : k = 0 := by omega
        refine (ItoaW_spec h10v i.a gi.a).mono ?_
        rintro _ v1 ⟨rfl, hv⟩
        obtain ⟨s1, s2, s3⟩ := step_ok gi (k := 0) (by omega) rfl
        exact ⟨_, rfl, s1, s2, ⟨1, by omega, rfl, s3, ev.trans' hv⟩, by dsimp only; decide⟩
      · obtain rfl : k = 1 := by omega
        refine (ItoaW_spec h10v i.b gi.b).mono ?_
        rintro _ v1 ⟨rfl, hv⟩
        obtain ⟨s1, s2, s3⟩ := step_ok gi (k := 1) (by omega) rfl
        exact ⟨_, rfl, s1, s2, ⟨2, by omega, rfl, s3, ev.trans' hv⟩, by dsimp only; decide⟩
      · obtain rfl : k = 2 := by omega
        refine (ItoaW_spec h10v i.c gi.c).mono ?_
        rintro _ v1 ⟨rfl, hv⟩
        obtain ⟨s1, s2, s3⟩ := step_ok gi (k := 2) (by omega) rfl
        exact ⟨_, rfl, s1, s2, ⟨3, by omega, rfl, s3, ev.trans' hv⟩, by dsimp only; decide⟩
      · obtain rfl : k = 3 := by omega
        refine (ItoaW_spec h10v i.d gi.d).mono ?_
        rintro _ v1 ⟨rfl, hv⟩
        obtain ⟨s1, s2, s3⟩ := step_ok gi (k := 3) (by omega) rfl
        exact ⟨_, rfl, s1, s2, ⟨4, by omega, rfl, s3, ev.trans' hv⟩, by dsimp only; decide⟩
    · obtain rfl : k = 4 := by omega
      exact ⟨rfl, eu.trans' ev⟩
  · repeat (first | refine ⟨_, Blk.cell (b) (by rfl), ?_⟩ | refine ⟨_, _, _, Blk.cell (b) (by rfl), ?_⟩)
    rw [wi i.op (by omega) (by omega)]
    refine (ItoaW_spec (h10.ext e2) i.op ⟨by omega, by omega⟩).mono ?_
    rintro _ w3 ⟨rfl, e⟩
    have hl := itoa_len (n := i.op) ⟨by omega, by omega⟩
    refine ⟨_, rfl, by rw [size_bs, show (ByteArray.mk #[111, 112]).size = 2 by rfl]; omega, ?_, e⟩
    unfold wordP
    rw [if_pos h]
    exact bs_app [111, 112] _
  · refine ⟨?_, .refl _ _⟩
    unfold wordP
    rw [if_neg h]
set_option maxRecDepth 20000 in
theorem CodeShows_holds {w : World} {i k : Ins} (hT : Tab w) (h10 : Tab10 w) (hM : Mx w) (gi : okI i) (gk : okI k) :
    CallsV Tryd.prog 5 #[.agg #[.int .u8 i.op, .int .i64 i.a, .int .i64 i.b, .int .i64 i.c, .int .i64 i.d], .agg #[.int .u8 k.op, .int .i64 k.a, .int .i64 k.b, .int .i64 k.c, .int .i64 k.d]] w fun r w' => r = .bool true ∧ Ext w w' := by
  have hlen := showK_len gi (Nat.le_refl 4)
  rw [showK_four] at hlen
  refine cardindexlaw15_CodeShows.calls okay ?_
  unfold cardindexlaw15_CodeShows.W
  intro g w1 f g1 w2 f1
  have bi : Blk w2 g (insC i) := f.blk.ext f1.ext
  have bk : Blk w2 g1 (insC k) := f1.blk
  have e2 := f.ext.trans' f1.ext
  clear f f1
  refine ⟨fun u => Ext w2 u, Fr.drew NoB w2, ?_⟩
  repeat (first | refine ⟨_, fun u e => Blk.cell (Blk.ext (bi) e) (by rfl), ?_⟩ | refine ⟨_, _, _, fun u e => Blk.cell (Blk.ext (bi) e) (by rfl), ?_⟩ | refine ⟨_, fun u e => Blk.cell (Blk.ext (bk) e) (by rfl), ?_⟩ | refine ⟨_, _, _, fun u e => Blk.cell (Blk.ext (bk) e) (by rfl), ?_⟩)
  have e2' := e2.drew
  refine (Show_spec (hT.ext e2') (h10.ext e2') gi).mono ?_
  rintro _ w3 ⟨rfl, k3⟩
  have k3 := Ext.drew0 k3
  have e3 := e2.trans' k3
  refine ⟨_, rfl, k3, ?_⟩
  refine (Show_spec (hT.ext e3) (h10.ext e3) gk).mono ?_
  rintro _ w4 ⟨rfl, k4⟩
  have e4 := e3.trans' k4
  have k4 := k3.trans' k4
  refine ⟨_, rfl, ?_⟩
  repeat (first | refine ⟨_, Blk.cell (bi.ext k4) (by rfl), ?_⟩ | refine ⟨_, _, _, Blk.cell (bi.ext k4) (by rfl), ?_⟩ | refine ⟨_, Blk.cell (bk.ext k4) (by rfl), ?_⟩ | refine ⟨_, _, _, Blk.cell (bk.ext k4) (by rfl), ?_⟩)
  refine brf (by kernel_rfl) ?_
  have hs : (ByteArray.toList (bs (showP i)) == ByteArray.toList (bs (showP k))) = decide (showP i = showP k) := eq_str _ _
  rw [hs, show_eq i k]
  refine brn (fun h => absurd rfl h) (fun _ => ?_)
  refine (Fields_spec (hT.ext e4) (bs (showP i)) (by rw [size_bs]; omega) (show_ascii i)).mono ?_
  rintro _ w5 ⟨A, rfl, _, k5⟩
  have e5 := e4.trans' k5
  refine ⟨_, _, _, rfl, brn (fun h => absurd ?_ h) (fun _ => ?_)⟩
  · rw [show Lib.fields (sb (bs (showP i))) = Lib.fields (showP i) by rfl, fields_show]; rfl
  obtain ⟨m, hm⟩ := hM.ext e5
  refine CallsV.mono (K := fun r w' => r = .bool false ∧ w' = w5) (Calls.mono (Tryd.strings_Contains (bs (showP i)) (ByteArray.mk #[32, 32]) m w5 (by rw [size_bs]; omega) hm) ?_) ?_
  · rintro e w' ⟨he, hw⟩
    refine ⟨_, he, ?_, hw⟩
    rw [show Lib.contains (bs (showP i)).data.toList (ByteArray.mk #[32, 32]).data.toList = Lib.contains (showP i) [32, 32] by rfl, contains_show]
  rintro _ w6 ⟨rfl, hw⟩
  subst hw
  refine ⟨_, rfl, br (fun h => by cases h) (fun _ => ?_)⟩
  repeat (first | refine ⟨_, Blk.cell (bi.ext (k4.trans' k5)) (by rfl), ?_⟩ | refine ⟨_, _, _, Blk.cell (bi.ext (k4.trans' k5)) (by rfl), ?_⟩)
  refine (Word_spec (hT.ext e5) gi.op).mono ?_
  rintro _ w7 ⟨rfl, k7⟩
  have e7 := e5.trans' k7
  have fin : CallsV Tryd.prog 9 #[] w7 fun v w' => ∃ x, v = .bool x ∧ (Value.bool x = .bool true ∧ Ext w w') := by
    refine (awake_spec (hT.ext e7)).mono ?_
    rintro _ u1 ⟨rfl, e1⟩
    exact ⟨_, rfl, rfl, e7.trans' e1⟩
  have pre : ∀ (q : List UInt8), Lib.hasPrefix (showP i) q = true → CallsV Tryd.prog 15 #[.string (bs (showP i)), .string (bs q)] w7 fun r w' => r = .bool true ∧ w' = w7 := fun q hq => by
    refine Calls.mono (Tryd.strings_HasPrefix (bs (showP i)) (bs q) w7) ?_
    rintro e w' ⟨he, hw⟩
    refine ⟨_, he, ?_, hw⟩
    rw [show Lib.hasPrefix (bs (showP i)).data.toList (bs q).data.toList = Lib.hasPrefix (showP i) q by rfl, hq]
  refine ⟨_, rfl, brS (fun h => ?_) (fun h => ?_)⟩
  · refine (pre [111, 112] (pre_op h)).mono ?_
    rintro _ w8 ⟨rfl, hw⟩
    subst hw
    exact ⟨_, rfl, br (fun _ => fin) (fun h => by cases h)⟩
  · refine brnS (fun _ => ?_) (fun h' => absurd h' h)
    have hin : 1 ≤ i.op ∧ i.op ≤ 35 := by
      rcases Decidable.em (1 ≤ i.op ∧ i.op ≤ 35) with h1 | h1
      · exact h1
      · exact absurd (wordO_out h1) h
    have hl := (wordO_in hin).2.2.2.1
    refine ⟨by rw [size_bs, show (ByteArray.mk #[32]).size = 1 by rfl]; omega, ?_⟩
    rw [show bs (wordO i.op) ++ ByteArray.mk #[32] = bs (wordO i.op ++ [32]) from bs_app _ [32]]
    refine (pre _ (pre_word h)).mono ?_
    rintro _ w8 ⟨rfl, hw⟩
    subst hw
    exact ⟨_, rfl, br (fun _ => fin) (fun h => by cases h)⟩
end Go.Proofs.YtaifphjenebgoaaDoor
/- Layer 15: what a statement's first world gives: its shape; an argument that is an instruction. -/
set_option linter.unusedVariables false
set_option linter.unusedSimpArgs false
namespace Go.Proofs.YtaifphjenebgoaaDoor
open Go Go.Sx Go.ChangeShapes Go.WideShapes Go.ChangeAt Go.RowKit R1 K15
theorem returns_shaped {H : Type} {enc : TypeId × Value → H} {a : Assume} {C : Checked} {os : Os} {f : FuncId} {fn : Func} {s : ChangeSpec} {apart fresh handsOn again : Bool} {X : World → Array Value → Prop}
    (hX : ∀ (w w' : World) (args : Array Value), w.heap = w'.heap → X w args → X w' args)
    (own : ownKnob C.prog.godebug = none) (started : os.Started) (noInit : C.prog.inits.idxOf? f = none) (hfn : C.prog.funcs[f]? = some fn)
    (witness : ∃ (w : World) (tape : Tape) (i : Input), w.os = os ∧ (w.forCall tape i).Shaped C.prog ∧ i.vars = [] ∧ Input.okWide C.prog (w.forCall tape i) .any w.heap.size f i ∧
      ((s.pre enc C.prog fn [] apart (w.forCall tape i).memory i.args ∧ X (w.forCall tape i).memory i.args) ∧ sizedMet enc C.prog fn (OpenSpec.ofChange s) apart (w.forCall tape i).memory i.args) ∧ a.holds C.prog (lone (Frame.enter C.prog f i.args .normal) [] (w.forCall tape i)))
    (walk : ∀ (W : World) (base : Nat) (args : Array Value) (ds gs : List (DataW H)) (before : List MemPlace),
      (∀ (j : Nat) t v, fn.params[j]? = some t → args[j]? = some v → Value.okWide C.prog W .any base t v) →
      DataW.Whole enc C.prog fn.params.toList s.vars apart W args.toList ds gs before → X W args → W.ShapedOpen C.prog →
      Calls C.prog f args W fun e W' => ∃ v, e = .returned v ∧ s.post enc C.prog fn apart fresh handsOn again W args v W') :
    ReturnsInHanded a C os f .any (fun w args => (s.pre enc C.prog fn [] apart w args ∧ X w args) ∧ sizedMet enc C.prog fn (OpenSpec.ofChange s) apart w args) (s.post enc C.prog fn apart fresh handsOn again) := by
  refine returnsInHanded_of_calls own started noInit witness fun w tape i _ hsh _ hok hpre _ => ?_
  obtain ⟨_, _, _, g, hg, _, _, _, _, hval⟩ := hok
  obtain rfl : g = fn := Option.some.inj (hg.symm.trans hfn)
  obtain ⟨⟨⟨ds, gs, before, hW, _⟩, hx⟩, _⟩ := hpre
  refine (walk (w.forCall tape i) w.heap.size i.args ds gs before hval (DataW.Whole.of_heap (w' := w.forCall tape i) (by rfl) hW) (hX _ _ _ (by rfl) hx) hsh).mono fun e W' h => ?_
  obtain ⟨v, rfl, hp⟩ := h
  exact ChangeSpec.post_blind hp
theorem Mx_of_shape {W : World} (h : W.ShapedOpen Tryd.prog) : Mx W :=
  cell_of_shapedOpen_int (P := Tryd.prog) (g := 2) (t := 3) (zero := #[.int .i64 0]) h (of_decide_eq_true (by kernel_rfl)) (by kernel_rfl) rfl (by kernel_rfl) (by kernel_rfl) Tryd.underlying3
set_option maxRecDepth 10000 in
theorem arg_ins {H : Type} {enc : TypeId × Value → H} {W : World} {r : Reach} {base : Nat} {v : Value} {d : DataW H} {ps : List MemPlace}
    (hval : Value.okWide Tryd.prog W r base 38 v) (h : DataW.Trod enc Tryd.prog W 0 (fun _ => true) true 38 v d ps) : ∃ i : Ins, v = .agg #[.int .u8 i.op, .int .i64 i.a, .int .i64 i.b, .int .i64 i.c, .int .i64 i.d] ∧ okI i := by
  obtain ⟨arr, rfl, hs⟩ := okWide_struct (fs := sfs Tryd.prog 38) (by kernel_rfl) hval
  obtain ⟨fuel, hf⟩ := h
  obtain ⟨i, hr, g⟩ := opens_Ins enc W fuel _ _ hf
  obtain ⟨cs⟩ := arr
  have hr : cs = insC i := hr
  subst hr
  exact ⟨i, rfl, ⟨g.1, g.2.1, g.2.2.1, g.2.2.2.1, g.2.2.2.2⟩⟩
end Go.Proofs.YtaifphjenebgoaaDoor
