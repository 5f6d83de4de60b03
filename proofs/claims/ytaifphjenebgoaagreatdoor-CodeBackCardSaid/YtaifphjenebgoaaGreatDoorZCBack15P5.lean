/- Part 5 of the texts of this claim: the engine, contracts, plain laws. -/
import Derived.Test.YtaifphjenebgoaaGreatDoorProg
import Derived.Test.YtaifphjenebgoaaGreatDoorZCBack15P2
import Derived.Test.YtaifphjenebgoaaGreatDoorZCBack15P4
import Derived.Test.YtaifphjenebgoaaGreatDoorZCBack15P3
set_option linter.unusedVariables false
set_option maxRecDepth 100000
namespace Go.Proofs.YtaifphjenebgoaaGreatDoor
open Go Go.Sx
noncomputable def code_field_2.W : Value → Addr → Addr → Addr → World → (Value → World → Prop) → Prop := fun (okx : Value) (a1 a2 a3 : Addr) (w : World) (K : Value → World → Prop) => cellsL okx = [okx]
 ∧ ∀ (g : Nat) (w' : World), Fresh w g w' [okx] 120 → K (Value.func (Fn.func 90) #[] #[Value.pointer (some a1), Value.pointer (some a2), Value.pointer (some (Addr.mk g 0
 none)), Value.pointer (some a3)]) w'
theorem code_field_2.calls (ok : Okay Tryz.prog) {okx : Value} {a1 : Addr} {a2 : Addr} {a3 : Addr} {w : World} {K : Value → World → Prop} (h : code_field_2.W okx a1 a2 a3 w K) : CallsV Tryz.prog 89 #[okx, .pointer (some a1), .pointer (some a2), .pointer (some a3)] w K :=
  fnW_calls ok Tryz.func89 (an := (.named (.named .auto))) (args := [okx, .pointer (some a1), .pointer (some a2), .pointer (some a3)]) (Eq.mp (by kernel_rfl) h)
noncomputable def code_field_2_1.W : Addr → Addr → Addr → Addr → World → (Value → World → Prop) → Prop := fun (a0 a1 a2 a3 : Addr) (w : World) (K : Value → World → Prop) => ∃ (S : World → Prop), S
 (World.drew w) ∧ ∃ (x : Value), (∀ (u : World), S u → World.cell? u a0 = some x) ∧ ∃ (x_1 : Option Addr) (x_2 x_3 : Nat), (∀ (u : World), S u → World.cell? u (Addr.add a1 5) = some
 (Value.slice x_1 x_2 x_3)) ∧ ∃ (fid : Nat) (first captured : Array Value), x = Value.func (Fn.func fid) first captured ∧ bodied Tryz.prog fid = true ∧ CallsV Tryz.prog fid (List.toArray
 (Array.toList first ++ ([Value.int IntKind.i64 (↑x_2 : Int)] ++ Array.toList captured))) (World.drew w) fun (r : Value) (w' : World) => ∃ (x : Value), r = x ∧ S w' ∧ ∃ (fid : Nat) (first captured :
 Array Value), x = Value.func (Fn.func fid) first captured ∧ bodied Tryz.prog fid = true ∧ CallsV Tryz.prog fid (List.toArray (Array.toList first ++ ([] ++ Array.toList captured))) w' fun (r :
 Value) (w' : World) => ∃ (x : Bool), r = Value.bool x ∧ S w' ∧ bif x then ∃ (S_1 : World → Prop), S_1 w' ∧ ∃ (x : Value), (∀ (u : World), S_1 u → World.cell? u a2 = some x) ∧ ∃ (x_4 : Option
 Addr) (x_5 x_6 : Nat), (∀ (u : World), S_1 u → World.cell? u (Addr.add a1 5) = some (Value.slice x_4 x_5 x_6)) ∧ ∃ (x_7 : Int), (∀ (u : World), S_1 u → World.cell? u a3 = some (Value.int
 IntKind.i64 x_7)) ∧ ∃ (ad : Addr), x_4 = some ad ∧ ((0 : Int) ≤ x_7 ∧ x_7 < (↑x_5 : Int)) ∧ ∃ (x_8 : ByteArray), (∀ (u : World), S_1 u → World.cell? u (Addr.add (Addr.add ad (Int.toNat x_7 * 3))
 0) = some (Value.string x_8)) ∧ ∃ (x_9 : Bool), (∀ (u : World), S_1 u → World.cell? u (Addr.add (Addr.add ad (Int.toNat x_7 * 3)) 1) = some (Value.bool x_9)) ∧ ∃ (x_10 : Bool), (∀ (u :
 World), S_1 u → World.cell? u (Addr.add (Addr.add ad (Int.toNat x_7 * 3)) 2) = some (Value.bool x_10)) ∧ ∃ (fid : Nat) (first captured : Array Value), x = Value.func (Fn.func fid) first captured
 ∧ bodied Tryz.prog fid = true ∧ CallsV Tryz.prog fid (List.toArray (Array.toList first ++ ([Value.agg #[Value.string x_8, Value.bool x_9, Value.bool x_10]] ++ Array.toList captured))) w' fun (r :
 Value) (w' : World) => ∃ (x : Bool), r = Value.bool x ∧ S_1 w' ∧ S w' ∧ K (Value.bool x) w' else K (Value.bool false) w'
theorem code_field_2_1.calls (ok : Okay Tryz.prog) {a0 : Addr} {a1 : Addr} {a2 : Addr} {a3 : Addr} {w : World} {K : Value → World → Prop} (h : code_field_2_1.W a0 a1 a2 a3 w K) : CallsV Tryz.prog 90 #[.pointer (some a0), .pointer (some a1), .pointer (some a2), .pointer (some a3)] w K :=
  fnW_calls ok Tryz.func90 (an := (.named (.named .auto))) (args := [.pointer (some a0), .pointer (some a1), .pointer (some a2), .pointer (some a3)]) (Eq.mp (by kernel_rfl) h)
noncomputable def code_field_10.W : Addr → Addr → Addr → World → (Value → World → Prop) → Prop := fun (a0 a1 a2 : Addr) (w : World) (K : Value → World → Prop) => ∃ (x : Value), World.cell? w a0 =
 some x ∧ ∃ (x_1 : Option Addr) (x_2 x_3 : Nat), World.cell? w (Addr.add a1 4) = some (Value.slice x_1 x_2 x_3) ∧ ∃ (fid : Nat) (first captured : Array Value), x = Value.func (Fn.func fid)
 first captured ∧ bodied Tryz.prog fid = true ∧ CallsV Tryz.prog fid (List.toArray (Array.toList first ++ ([Value.int IntKind.i64 (↑x_2 : Int)] ++ Array.toList captured))) w fun (r : Value) (w' :
 World) => ∃ (x : Value), r = x ∧ ∃ (fid : Nat) (first captured : Array Value), x = Value.func (Fn.func fid) first captured ∧ bodied Tryz.prog fid = true ∧ CallsV Tryz.prog fid (List.toArray
 (Array.toList first ++ ([] ++ Array.toList captured))) w' fun (r : Value) (w' : World) => ∃ (x : Bool), r = Value.bool x ∧ bif x then ∃ (x : Option Addr) (x_4 x_5 : Nat), World.cell? w' (Addr.add a1 4)
 = some (Value.slice x x_4 x_5) ∧ ∃ (x_6 : Int), World.cell? w' a2 = some (Value.int IntKind.i64 x_6) ∧ ∃ (ad : Addr), x = some ad ∧ ((0 : Int) ≤ x_6 ∧ x_6 < (↑x_4 : Int)) ∧ ∃ (x :
 Int), World.cell? w' (Addr.add (Addr.add ad (Int.toNat x_6 * 3)) 0) = some (Value.int IntKind.u8 x) ∧ K (Value.bool (decide (x = (2 : Int)))) w' else K (Value.bool false) w'
theorem code_field_10.calls (ok : Okay Tryz.prog) {a0 : Addr} {a1 : Addr} {a2 : Addr} {w : World} {K : Value → World → Prop} (h : code_field_10.W a0 a1 a2 w K) : CallsV Tryz.prog 98 #[.pointer (some a0), .pointer (some a1), .pointer (some a2)] w K :=
  fnW_calls ok Tryz.func98 (an := (.named (.named .auto))) (args := [.pointer (some a0), .pointer (some a1), .pointer (some a2)]) (Eq.mp (by kernel_rfl) h)
noncomputable def code_field.W : Int → Int → Int → Option Addr → Nat → Nat → Option Addr → Nat → Nat → Option Addr → Nat → Nat → Option Addr → Nat → Nat → Option Addr → Nat → Nat → Option Addr → Nat →
 Nat → Int → Int → Int → World → (Value → World → Prop) → Prop := fun (p0 p1 p2 : Int) (p3_A : Option Addr) (p3_n p3_c : Nat) (p4_A : Option Addr) (p4_n p4_c : Nat) (p5_A : Option Addr) (p5_n p5_c :
 Nat) (p6_A : Option Addr) (p6_n p6_c : Nat) (p7_A : Option Addr) (p7_n p7_c : Nat) (p8_A : Option Addr) (p8_n p8_c : Nat) (atx letter n : Int) (w : World) (K : Value → World → Prop) => ∀ (g : Nat) (w'
 : World), Fresh w g w' [Value.int IntKind.i64 p0, Value.int IntKind.i64 p1, Value.int IntKind.i64 p2, Value.slice p3_A p3_n p3_c, Value.slice p4_A p4_n p4_c, Value.slice p5_A p5_n p5_c, Value.slice
 p6_A p6_n p6_c, Value.slice p7_A p7_n p7_c, Value.slice p8_A p8_n p8_c] 29 → ∀ (g_1 : Nat) (w'_1 : World), Fresh w' g_1 w'_1 [Value.int IntKind.i64 atx] 3 → ∀ (g_2 : Nat) (w' : World), Fresh w'_1 g_2
 w' [Value.int IntKind.i64 n] 3 → ∀ (g_3 : Nat) (w'_2 : World), Fresh w' g_3 w'_2 [Value.nilFunc] 133 → cellsL (Value.func (Fn.func 87) #[] #[Value.pointer (some (Addr.mk g_2 0 none))]) =
 [Value.func (Fn.func 87) #[] #[Value.pointer (some (Addr.mk g_2 0 none))]] ∧ Value.oneCell' (Value.func (Fn.func 87) #[] #[Value.pointer (some (Addr.mk g_2 0 none))]) =
 true ∧ stOK (Addr.mk g_3 0 none) 0 [Value.func (Fn.func 87) #[] #[Value.pointer (some (Addr.mk g_2 0 none))]] w'_2 ∧ ∀ (w' : World), w' = setAll (Addr.mk g_3 0 none) 0
 [Value.func (Fn.func 87) #[] #[Value.pointer (some (Addr.mk g_2 0 none))]] w'_2 → ∃ (S : World → Prop), S (World.drew w') ∧ ∃ (x : Value), (∀ (u : World), S u → World.cell? u (Addr.mk g_3
 0 none) = some x) ∧ ∃ (x_1 : Int), (∀ (u : World), S u → World.cell? u (Addr.add (Addr.mk g 0 none) 1) = some (Value.int IntKind.i64 x_1)) ∧ ∃ (x_2 : Value), (∀ (u : World),
 S u → World.cell? u (Addr.mk g_3 0 none) = some x_2) ∧ ∃ (x_3 : Option Addr) (x_4 x_5 : Nat), (∀ (u : World), S u → World.cell? u (Addr.add (Addr.mk g 0 none) 4) = some
 (Value.slice x_3 x_4 x_5)) ∧ ∃ (x_6 : Value), (∀ (u : World), S u → World.cell? u (Addr.mk g_3 0 none) = some x_6) ∧ ∃ (x_7 : Int), (∀ (u : World), S u → World.cell? u (Addr.add (Addr.mk
 g 0 none) 2) = some (Value.int IntKind.i64 x_7)) ∧ ∃ (x_8 : Value), (∀ (u : World), S u → World.cell? u (Addr.mk g_3 0 none) = some x_8) ∧ ∃ (x_9 : Option Addr) (x_10 x_11 :
 Nat), (∀ (u : World), S u → World.cell? u (Addr.add (Addr.mk g 0 none) 6) = some (Value.slice x_9 x_10 x_11)) ∧ ∃ (x_12 : Value), (∀ (u : World), S u → World.cell? u (Addr.mk g_3 0
 none) = some x_12) ∧ ∃ (x_13 : Option Addr) (x_14 x_15 : Nat), (∀ (u : World), S u → World.cell? u (Addr.add (Addr.mk g 0 none) 7) = some (Value.slice x_13 x_14 x_15)) ∧ ∃
 (x_16 : Value), (∀ (u : World), S u → World.cell? u (Addr.mk g_3 0 none) = some x_16) ∧ ∃ (x_17 : Option Addr) (x_18 x_19 : Nat), (∀ (u : World), S u → World.cell? u (Addr.add (Addr.mk g
 0 none) 5) = some (Value.slice x_17 x_18 x_19)) ∧ ∃ (x_20 : Value), (∀ (u : World), S u → World.cell? u (Addr.mk g_3 0 none) = some x_20) ∧ ∃ (x_21 : Value), (∀ (u : World),
 S u → World.cell? u (Addr.mk g_3 0 none) = some x_21) ∧ ∃ (x_22 : Value), (∀ (u : World), S u → World.cell? u (Addr.mk g_3 0 none) = some x_22) ∧ ∃ (x_23 : Value), (∀ (u :
 World), S u → World.cell? u (Addr.mk g_3 0 none) = some x_23) ∧ ∃ (G : (Nat → Bool) → (Nat → Value) → World → Prop), (∀ (ν : Nat → Value), G (fun (x : Nat) => false) ν (World.drew
 w')) ∧ (∀ (D : Nat → Bool) (ν : Nat → Value) (w : World), G D ν w → S w) ∧ ((∀ (D : Nat → Bool) (ν : Nat → Value) (w : World), G D ν w → D 0 = false → ∃ (x : Option Nat) (w' : World), RunsTo
 Tryz.prog (Instr.makeMap 135 none) w (Value.map x) w' ∧ G (setD D 0) (setNuV ν (some 14) (Value.map x)) w') ∧ (∀ (D : Nat → Bool) (ν : Nat → Value) (w : World), G D ν w → D 2 = false
 → D 0 = true → ∃ (x : Option Nat), ν 14 = Value.map x ∧ ∃ (w' : World), RunsTo Tryz.prog (Instr.mapUpdate 135 (Value.map x) (Value.int IntKind.u8 (45 : Int)) (Value.func (Fn.func 91) #[]
 #[Value.pointer (some (Addr.mk g_2 0 none))])) w () w' ∧ G (setD D 2) (setNuV ν none undef) w') ∧ (∀ (D : Nat → Bool) (ν : Nat → Value) (w : World), G D ν w → D 6 = false → ∃
 (fid : Nat) (first captured : Array Value), x = Value.func (Fn.func fid) first captured ∧ bodied Tryz.prog fid = true ∧ CallsV Tryz.prog fid (List.toArray (Array.toList first ++ ([Value.int
 IntKind.i64 x_1] ++ Array.toList captured))) w fun (r : Value) (w' : World) => ∃ (x : Value), r = x ∧ G (setD D 6) (setNuV ν (some 19) x) w') ∧ (∀ (D : Nat → Bool) (ν : Nat → Value) (w : World),
 G D ν w → D 7 = false → D 0 = true → D 6 = true → ∃ (x : Option Nat), ν 14 = Value.map x ∧ ∃ (w' : World), RunsTo Tryz.prog (Instr.mapUpdate 135 (Value.map x) (Value.int IntKind.u8 (114
 : Int)) (ν 19)) w () w' ∧ G (setD D 7) (setNuV ν none undef) w') ∧ (∀ (D : Nat → Bool) (ν : Nat → Value) (w : World), G D ν w → D 12 = false → D 6 = true → ∃ (fid : Nat) (first
 captured : Array Value), x_2 = Value.func (Fn.func fid) first captured ∧ bodied Tryz.prog fid = true ∧ CallsV Tryz.prog fid (List.toArray (Array.toList first ++ ([Value.int IntKind.i64 (↑x_4 :
 Int)] ++ Array.toList captured))) w fun (r : Value) (w' : World) => ∃ (x : Value), r = x ∧ G (setD D 12) (setNuV ν (some 24) x) w') ∧ (∀ (D : Nat → Bool) (ν : Nat → Value) (w : World), G D ν w →
 D 13 = false → D 0 = true → D 12 = true → ∃ (x : Option Nat), ν 14 = Value.map x ∧ ∃ (w' : World), RunsTo Tryz.prog (Instr.mapUpdate 135 (Value.map x) (Value.int IntKind.u8 (107 : Int))
 (ν 24)) w () w' ∧ G (setD D 13) (setNuV ν none undef) w') ∧ (∀ (D : Nat → Bool) (ν : Nat → Value) (w : World), G D ν w → D 17 = false → D 12 = true → ∃ (fid : Nat) (first captured :
 Array Value), x_6 = Value.func (Fn.func fid) first captured ∧ bodied Tryz.prog fid = true ∧ CallsV Tryz.prog fid (List.toArray (Array.toList first ++ ([Value.int IntKind.i64 x_7] ++ Array.toList
 captured))) w fun (r : Value) (w' : World) => ∃ (x : Value), r = x ∧ G (setD D 17) (setNuV ν (some 28) x) w') ∧ (∀ (D : Nat → Bool) (ν : Nat → Value) (w : World), G D ν w → D 18 = false → D
 0 = true → D 17 = true → ∃ (x : Option Nat), ν 14 = Value.map x ∧ ∃ (w' : World), RunsTo Tryz.prog (Instr.mapUpdate 135 (Value.map x) (Value.int IntKind.u8 (98 : Int)) (ν 28)) w () w' ∧ G
 (setD D 18) (setNuV ν none undef) w') ∧ (∀ (D : Nat → Bool) (ν : Nat → Value) (w : World), G D ν w → D 23 = false → D 17 = true → ∃ (fid : Nat) (first captured : Array Value), x_8 =
 Value.func (Fn.func fid) first captured ∧ bodied Tryz.prog fid = true ∧ CallsV Tryz.prog fid (List.toArray (Array.toList first ++ ([Value.int IntKind.i64 (↑x_10 : Int)] ++ Array.toList captured)))
 w fun (r : Value) (w' : World) => ∃ (x : Value), r = x ∧ G (setD D 23) (setNuV ν (some 33) x) w') ∧ (∀ (D : Nat → Bool) (ν : Nat → Value) (w : World), G D ν w → D 24 = false → D 0 =
 true → D 23 = true → ∃ (x : Option Nat), ν 14 = Value.map x ∧ ∃ (w' : World), RunsTo Tryz.prog (Instr.mapUpdate 135 (Value.map x) (Value.int IntKind.u8 (115 : Int)) (ν 33)) w () w' ∧ G (setD
 D 24) (setNuV ν none undef) w') ∧ (∀ (D : Nat → Bool) (ν : Nat → Value) (w : World), G D ν w → D 29 = false → D 23 = true → ∃ (fid : Nat) (first captured : Array Value), x_12 =
 Value.func (Fn.func fid) first captured ∧ bodied Tryz.prog fid = true ∧ CallsV Tryz.prog fid (List.toArray (Array.toList first ++ ([Value.int IntKind.i64 (↑x_14 : Int)] ++ Array.toList captured)))
 w fun (r : Value) (w' : World) => ∃ (x : Value), r = x ∧ G (setD D 29) (setNuV ν (some 38) x) w') ∧ (∀ (D : Nat → Bool) (ν : Nat → Value) (w : World), G D ν w → D 30 = false → D 0 =
 true → D 29 = true → ∃ (x : Option Nat), ν 14 = Value.map x ∧ ∃ (w' : World), RunsTo Tryz.prog (Instr.mapUpdate 135 (Value.map x) (Value.int IntKind.u8 (116 : Int)) (ν 38)) w () w' ∧ G (setD
 D 30) (setNuV ν none undef) w') ∧ (∀ (D : Nat → Bool) (ν : Nat → Value) (w : World), G D ν w → D 35 = false → D 29 = true → ∃ (fid : Nat) (first captured : Array Value), x_16 =
 Value.func (Fn.func fid) first captured ∧ bodied Tryz.prog fid = true ∧ CallsV Tryz.prog fid (List.toArray (Array.toList first ++ ([Value.int IntKind.i64 (↑x_18 : Int)] ++ Array.toList captured)))
 w fun (r : Value) (w' : World) => ∃ (x : Value), r = x ∧ G (setD D 35) (setNuV ν (some 43) x) w') ∧ (∀ (D : Nat → Bool) (ν : Nat → Value) (w : World), G D ν w → D 36 = false → D 0 =
 true → D 35 = true → ∃ (x : Option Nat), ν 14 = Value.map x ∧ ∃ (w' : World), RunsTo Tryz.prog (Instr.mapUpdate 135 (Value.map x) (Value.int IntKind.u8 (99 : Int)) (ν 43)) w () w' ∧ G (setD D
 36) (setNuV ν none undef) w') ∧ (∀ (D : Nat → Bool) (ν : Nat → Value) (w : World), G D ν w → D 38 = false → D 35 = true → ∃ (fid : Nat) (first captured : Array Value), x_20 =
 Value.func (Fn.func fid) first captured ∧ bodied Tryz.prog fid = true ∧ CallsV Tryz.prog fid (List.toArray (Array.toList first ++ ([Value.int IntKind.i64 (15 : Int)] ++ Array.toList captured))) w
 fun (r : Value) (w' : World) => ∃ (x : Value), r = x ∧ G (setD D 38) (setNuV ν (some 45) x) w') ∧ (∀ (D : Nat → Bool) (ν : Nat → Value) (w : World), G D ν w → D 39 = false → D 0 = true
 → D 38 = true → ∃ (x : Option Nat), ν 14 = Value.map x ∧ ∃ (w' : World), RunsTo Tryz.prog (Instr.mapUpdate 135 (Value.map x) (Value.int IntKind.u8 (50 : Int)) (ν 45)) w () w' ∧ G (setD D 39)
 (setNuV ν none undef) w') ∧ (∀ (D : Nat → Bool) (ν : Nat → Value) (w : World), G D ν w → D 41 = false → D 38 = true → ∃ (fid : Nat) (first captured : Array Value), x_21 = Value.func
 (Fn.func fid) first captured ∧ bodied Tryz.prog fid = true ∧ CallsV Tryz.prog fid (List.toArray (Array.toList first ++ ([Value.int IntKind.i64 (2 : Int)] ++ Array.toList captured))) w fun (r :
 Value) (w' : World) => ∃ (x : Value), r = x ∧ G (setD D 41) (setNuV ν (some 47) x) w') ∧ (∀ (D : Nat → Bool) (ν : Nat → Value) (w : World), G D ν w → D 42 = false → D 0 = true → D 41 =
 true → ∃ (x : Option Nat), ν 14 = Value.map x ∧ ∃ (w' : World), RunsTo Tryz.prog (Instr.mapUpdate 135 (Value.map x) (Value.int IntKind.u8 (49 : Int)) (ν 47)) w () w' ∧ G (setD D 42) (setNuV ν
 none undef) w') ∧ (∀ (D : Nat → Bool) (ν : Nat → Value) (w : World), G D ν w → D 44 = false → D 41 = true → ∃ (fid : Nat) (first captured : Array Value), x_22 = Value.func (Fn.func
 fid) first captured ∧ bodied Tryz.prog fid = true ∧ CallsV Tryz.prog fid (List.toArray (Array.toList first ++ ([Value.int IntKind.i64 (10 : Int)] ++ Array.toList captured))) w fun (r : Value) (w'
 : World) => ∃ (x : Value), r = x ∧ G (setD D 44) (setNuV ν (some 49) x) w') ∧ (∀ (D : Nat → Bool) (ν : Nat → Value) (w : World), G D ν w → D 45 = false → D 0 = true → D 44 = true
 → ∃ (x : Option Nat), ν 14 = Value.map x ∧ ∃ (w' : World), RunsTo Tryz.prog (Instr.mapUpdate 135 (Value.map x) (Value.int IntKind.u8 (102 : Int)) (ν 49)) w () w' ∧ G (setD D 45) (setNuV ν none
 undef) w') ∧ (∀ (D : Nat → Bool) (ν : Nat → Value) (w : World), G D ν w → D 47 = false → D 44 = true → ∃ (fid : Nat) (first captured : Array Value), x_23 = Value.func (Fn.func fid) first
 captured ∧ bodied Tryz.prog fid = true ∧ CallsV Tryz.prog fid (List.toArray (Array.toList first ++ ([Value.int IntKind.i64 (60 : Int)] ++ Array.toList captured))) w fun (r : Value) (w' : World) =>
 ∃ (x : Value), r = x ∧ G (setD D 47) (setNuV ν (some 51) x) w') ∧ (∀ (D : Nat → Bool) (ν : Nat → Value) (w : World), G D ν w → D 48 = false → D 0 = true → D 47 = true → ∃ (x :
 Option Nat), ν 14 = Value.map x ∧ ∃ (w' : World), RunsTo Tryz.prog (Instr.mapUpdate 135 (Value.map x) (Value.int IntKind.u8 (120 : Int)) (ν 51)) w () w' ∧ G (setD D 48) (setNuV ν none undef) w')
 ∧ (∀ (D : Nat → Bool) (ν : Nat → Value) (w : World), G D ν w → D 50 = false → D 0 = true → ∃ (x : Option Nat), ν 14 = Value.map x ∧ ∃ (w' : World), RunsTo Tryz.prog (Instr.mapUpdate 135
 (Value.map x) (Value.int IntKind.u8 (106 : Int)) (Value.func (Fn.func 92) #[] #[Value.pointer (some (Addr.mk g_2 0 none)), Value.pointer (some (Addr.mk g_1 0 none)),
 Value.pointer (some (Addr.mk g 0 none))])) w () w' ∧ G (setD D 50) (setNuV ν none undef) w') ∧ (∀ (D : Nat → Bool) (ν : Nat → Value) (w : World), G D ν w → D 52 = false → D 0
 = true → ∃ (x : Option Nat), ν 14 = Value.map x ∧ ∃ (w' : World), RunsTo Tryz.prog (Instr.mapUpdate 135 (Value.map x) (Value.int IntKind.u8 (110 : Int)) (Value.func (Fn.func 93) #[]
 #[Value.pointer (some (Addr.mk g_2 0 none)), Value.pointer (some (Addr.mk g_1 0 none))])) w () w' ∧ G (setD D 52) (setNuV ν none undef) w') ∧ (∀ (D : Nat → Bool) (ν :
 Nat → Value) (w : World), G D ν w → D 54 = false → D 0 = true → ∃ (x : Option Nat), ν 14 = Value.map x ∧ ∃ (w' : World), RunsTo Tryz.prog (Instr.mapUpdate 135 (Value.map x) (Value.int
 IntKind.u8 (109 : Int)) (Value.func (Fn.func 94) #[] #[Value.pointer (some (Addr.mk g_2 0 none)), Value.pointer (some (Addr.mk g 0 none))])) w () w' ∧ G (setD D 54) (setNuV
 ν none undef) w') ∧ (∀ (D : Nat → Bool) (ν : Nat → Value) (w : World), G D ν w → D 56 = false → D 47 = true → ∃ (fid : Nat) (first captured : Array Value), Value.func (Fn.func 89) #[]
 #[Value.pointer (some (Addr.mk g_3 0 none)), Value.pointer (some (Addr.mk g 0 none)), Value.pointer (some (Addr.mk g_2 0 none))] = Value.func (Fn.func fid)
 first captured ∧ bodied Tryz.prog fid = true ∧ CallsV Tryz.prog fid (List.toArray (Array.toList first ++ ([Value.func (Fn.func 95) #[] #[]] ++ Array.toList captured))) w fun (r : Value) (w' :
 World) => ∃ (x : Value), r = x ∧ G (setD D 56) (setNuV ν (some 56) x) w') ∧ (∀ (D : Nat → Bool) (ν : Nat → Value) (w : World), G D ν w → D 57 = false → D 0 = true → D 56 = true →
 ∃ (x : Option Nat), ν 14 = Value.map x ∧ ∃ (w' : World), RunsTo Tryz.prog (Instr.mapUpdate 135 (Value.map x) (Value.int IntKind.u8 (105 : Int)) (ν 56)) w () w' ∧ G (setD D 57) (setNuV ν none
 undef) w') ∧ (∀ (D : Nat → Bool) (ν : Nat → Value) (w : World), G D ν w → D 59 = false → D 56 = true → ∃ (fid : Nat) (first captured : Array Value), Value.func (Fn.func 89) #[]
 #[Value.pointer (some (Addr.mk g_3 0 none)), Value.pointer (some (Addr.mk g 0 none)), Value.pointer (some (Addr.mk g_2 0 none))] = Value.func (Fn.func fid)
 first captured ∧ bodied Tryz.prog fid = true ∧ CallsV Tryz.prog fid (List.toArray (Array.toList first ++ ([Value.func (Fn.func 96) #[] #[]] ++ Array.toList captured))) w fun (r : Value) (w' :
 World) => ∃ (x : Value), r = x ∧ G (setD D 59) (setNuV ν (some 58) x) w') ∧ (∀ (D : Nat → Bool) (ν : Nat → Value) (w : World), G D ν w → D 60 = false → D 0 = true → D 59 = true →
 ∃ (x : Option Nat), ν 14 = Value.map x ∧ ∃ (w' : World), RunsTo Tryz.prog (Instr.mapUpdate 135 (Value.map x) (Value.int IntKind.u8 (108 : Int)) (ν 58)) w () w' ∧ G (setD D 60) (setNuV ν none
 undef) w') ∧ (∀ (D : Nat → Bool) (ν : Nat → Value) (w : World), G D ν w → D 62 = false → D 59 = true → ∃ (fid : Nat) (first captured : Array Value), Value.func (Fn.func 89) #[]
 #[Value.pointer (some (Addr.mk g_3 0 none)), Value.pointer (some (Addr.mk g 0 none)), Value.pointer (some (Addr.mk g_2 0 none))] = Value.func (Fn.func fid)
 first captured ∧ bodied Tryz.prog fid = true ∧ CallsV Tryz.prog fid (List.toArray (Array.toList first ++ ([Value.func (Fn.func 97) #[] #[]] ++ Array.toList captured))) w fun (r : Value) (w' :
 World) => ∃ (x : Value), r = x ∧ G (setD D 62) (setNuV ν (some 60) x) w') ∧ (∀ (D : Nat → Bool) (ν : Nat → Value) (w : World), G D ν w → D 63 = false → D 0 = true → D 62 = true →
 ∃ (x : Option Nat), ν 14 = Value.map x ∧ ∃ (w' : World), RunsTo Tryz.prog (Instr.mapUpdate 135 (Value.map x) (Value.int IntKind.u8 (119 : Int)) (ν 60)) w () w' ∧ G (setD D 63) (setNuV ν none
 undef) w') ∧ ∀ (D : Nat → Bool) (ν : Nat → Value) (w : World), G D ν w → D 65 = false → D 0 = true → ∃ (x : Option Nat), ν 14 = Value.map x ∧ ∃ (w' : World), RunsTo Tryz.prog (Instr.mapUpdate
 135 (Value.map x) (Value.int IntKind.u8 (113 : Int)) (Value.func (Fn.func 98) #[] #[Value.pointer (some (Addr.mk g_3 0 none)), Value.pointer (some (Addr.mk g 0 none)),
 Value.pointer (some (Addr.mk g_2 0 none))])) w () w' ∧ G (setD D 65) (setNuV ν none undef) w') ∧ ∀ (D : Nat → Bool) (ν : Nat → Value) (w : World), D 0 = true → D 2 = true
 → D 6 = true → D 7 = true → D 12 = true → D 13 = true → D 17 = true → D 18 = true → D 23 = true → D 24 = true → D 29 = true → D 30 = true → D 35 =
 true → D 36 = true → D 38 = true → D 39 = true → D 41 = true → D 42 = true → D 44 = true → D 45 = true → D 47 = true → D 48 = true → D 50 = true →
 D 52 = true → D 54 = true → D 56 = true → D 57 = true → D 59 = true → D 60 = true → D 62 = true → D 63 = true → D 65 = true → G D ν w → ∃ (x : Option Nat),
 ν 14 = Value.map x ∧ ∃ (x_24 : Value) (w' : World), RunsTo Tryz.prog (Instr.lookup 135 (Value.map x) (Value.int IntKind.u8 letter) false) w x_24 w' ∧ ∃ (fid : Nat) (first captured : Array Value),
 x_24 = Value.func (Fn.func fid) first captured ∧ bodied Tryz.prog fid = true ∧ CallsV Tryz.prog fid (List.toArray (Array.toList first ++ ([] ++ Array.toList captured))) w' fun (r : Value) (w' :
 World) => ∃ (x : Bool), r = Value.bool x ∧ K (Value.bool x) w'
theorem code_field.calls (ok : Okay Tryz.prog) {p0 : Int} {p1 : Int} {p2 : Int} {p3_A : Option Addr} {p3_n : Nat} {p3_c : Nat} {p4_A : Option Addr} {p4_n : Nat} {p4_c : Nat} {p5_A : Option Addr} {p5_n : Nat} {p5_c : Nat} {p6_A : Option Addr} {p6_n : Nat} {p6_c : Nat} {p7_A : Option Addr} {p7_n : Nat} {p7_c : Nat} {p8_A : Option Addr} {p8_n : Nat} {p8_c : Nat} {atx : Int} {letter : Int} {n : Int} {w : World} {K : Value → World → Prop} (h : code_field.W p0 p1 p2 p3_A p3_n p3_c p4_A p4_n p4_c p5_A p5_n p5_c p6_A p6_n p6_c p7_A p7_n p7_c p8_A p8_n p8_c atx letter n w K) : CallsV Tryz.prog 47 #[.agg #[.int .i64 p0, .int .i64 p1, .int .i64 p2, .slice p3_A p3_n p3_c, .slice p4_A p4_n p4_c, .slice p5_A p5_n p5_c, .slice p6_A p6_n p6_c, .slice p7_A p7_n p7_c, .slice p8_A p8_n p8_c], .int .i64 atx, .int .u8 letter, .int .i64 n] w K :=
  fnW_calls ok Tryz.func47 (an := (.named (.named (.seq .auto (.seq .auto (.seq .auto (.seq (.loop [(14, .one .map)] .auto) .auto))))))) (args := [.agg #[.int .i64 p0, .int .i64 p1, .int .i64 p2, .slice p3_A p3_n p3_c, .slice p4_A p4_n p4_c, .slice p5_A p5_n p5_c, .slice p6_A p6_n p6_c, .slice p7_A p7_n p7_c, .slice p8_A p8_n p8_c], .int .i64 atx, .int .u8 letter, .int .i64 n]) (Eq.mp (by kernel_rfl) h)
end Go.Proofs.YtaifphjenebgoaaGreatDoor
set_option linter.unusedVariables false
set_option linter.unusedSimpArgs false
namespace Go.Proofs.YtaifphjenebgoaaGreatDoor
open Go Go.Sx R1 K15
structure PAd where
  nA : Option Addr
  nc : Nat
  cA : Option Addr
  cc : Nat
  uA : Option Addr
  uc : Nat
  sA : Option Addr
  sc : Nat
  tA : Option Addr
  tc : Nat
  dA : Option Addr
  dc : Nat
abbrev pcs (p : Prog) (a : PAd) : List Value := [.int .i64 p.ver, .int .i64 p.regs, .int .i64 p.binds, .slice a.nA p.names.length a.nc, .slice a.cA p.consts.length a.cc, .slice a.uA p.curs.length a.uc, .slice a.sA p.sorts.length a.sc, .slice a.tA p.tots.length a.tc, .slice a.dA p.code.length a.dc]
abbrev pagg (p : Prog) (a : PAd) : Value := .agg #[.int .i64 p.ver, .int .i64 p.regs, .int .i64 p.binds, .slice a.nA p.names.length a.nc, .slice a.cA p.consts.length a.cc, .slice a.uA p.curs.length a.uc, .slice a.sA p.sorts.length a.sc, .slice a.tA p.tots.length a.tc, .slice a.dA p.code.length a.dc]
structure PIm (w : World) (p : Prog) (a : PAd) : Prop where
  names : Imm Kd.str NoB w a.nA p.names
  consts : Imm KV NoB w a.cA p.consts
  curs : Imm KCur NoB w a.uA p.curs
  sorts : Imm KSrt NoB w a.sA p.sorts
  tots : Imm KTot NoB w a.tA p.tots
  code : Imm KIns NoB w a.dA p.code
  l1 : p.names.length ≤ maxLen
  l2 : p.consts.length ≤ maxLen
  l3 : p.curs.length ≤ maxLen
  l4 : p.sorts.length ≤ maxLen
  l5 : p.tots.length ≤ maxLen
  l6 : p.code.length ≤ maxLen
  c6 : p.code.length ≤ a.dc
theorem PIm.ext {w w' : World} {p : Prog} {a : PAd} (h : PIm w p a) (e : Ext w w') : PIm w' p a :=
  ⟨h.names.ext KStr_pos e, h.consts.ext KV_pos e, h.curs.ext KCur_pos e, h.sorts.ext KSrt_pos e, h.tots.ext KTot_pos e, h.code.ext KIns_pos e, h.l1, h.l2, h.l3, h.l4, h.l5, h.l6, h.c6⟩
set_option maxRecDepth 10000 in
theorem parts_spec {w : World} {p : Prog} {a : PAd} (h : PIm w p a) : CallsV Tryz.prog 45 #[pagg p a] w fun r w' => r = .bool (partsP p) ∧ Ext w w' := by
  refine code_parts.calls okay ?_
  unfold code_parts.W
  intro g w1 f1
  intro g1 w2 f2
  refine ⟨rfl, rfl, f2.blk.stOK [_] 0 (by simp), ?_⟩
  intro w3 hw3
  have b3 : Blk w3 g1 [.func (.func 74) #[] #[]] := by rw [hw3]; exact Blk.setAll (o := 0) [_] 0 f2.blk
  have e3 : Ext w w3 := by rw [hw3]; exact Ext.setAll (f1.ext.trans' f2.ext) (Nat.le_trans f1.ext.size f2.ge) _ _
  have bp : Blk w3 g (pcs p a) := by
    rw [hw3]
    exact ((f1.blk.ext f2.ext).keep (Fr.setAll (g := g1) (o := 0) _ 0 w2) (fun e => by have := f2.ge; have := f1.blk.lt; omega))
  clear hw3
  have fin : ∀ (b : Bool) (u : World), b = partsP p → Ext w3 u → (Value.bool b = .bool (partsP p) ∧ Ext w u) := fun b u hb e => ⟨by rw [hb], e3.trans' e⟩
  refine ⟨_, b3.cell0 rfl, _, bp.cell rfl, _, _, _, rfl, by kernel_rfl, ?_⟩
  refine (within_spec w3 p.ver 1 1099511627776).mono ?_
  rintro _ u ⟨rfl, hu⟩
  obtain rfl : w3 = u := hu.symm
  refine ⟨_, rfl, cbool (fun h0 => ?_) (fun h0 => fin _ _ (by simp [partsP, h0]) (.refl _ _))⟩
  refine ⟨_, b3.cell0 rfl, _, bp.cell rfl, _, _, _, rfl, by kernel_rfl, ?_⟩
  refine (within_spec w3 p.regs 1 250).mono ?_
  rintro _ u ⟨rfl, hu⟩
  obtain rfl : w3 = u := hu.symm
  refine ⟨_, rfl, cbool (fun h1 => ?_) (fun h1 => fin _ _ (by simp [partsP, h0, h1]) (.refl _ _))⟩
  refine ⟨_, b3.cell0 rfl, _, bp.cell rfl, _, _, _, rfl, by kernel_rfl, ?_⟩
  refine (within_spec w3 p.binds 0 1000).mono ?_
  rintro _ u ⟨rfl, hu⟩
  obtain rfl : w3 = u := hu.symm
  refine ⟨_, rfl, cbool (fun h2 => ?_) (fun h2 => fin _ _ (by simp [partsP, h0, h1, h2]) (.refl _ _))⟩
  refine ⟨_, _, _, bp.cell rfl, brd (fun h3 => ?_) (fun h3 => fin _ _ (by simp [partsP, h0, h1, h2, show ¬ p.names.length ≤ 200 by omega]) (.refl _ _))⟩
  have h3 : p.names.length ≤ 200 := by omega
  refine ⟨_, _, _, bp.cell rfl, brd (fun h4 => ?_) (fun h4 => fin _ _ (by simp [partsP, h0, h1, h2, h3, show ¬ p.consts.length ≤ 1000 by omega]) (.refl _ _))⟩
  have h4 : p.consts.length ≤ 1000 := by omega
  refine ⟨_, _, _, bp.cell rfl, brd (fun h5 => ?_) (fun h5 => fin _ _ (by simp [partsP, h0, h1, h2, h3, h4, show ¬ p.curs.length ≤ 12 by omega]) (.refl _ _))⟩
  have h5 : p.curs.length ≤ 12 := by omega
  refine ⟨_, _, _, bp.cell rfl, brd (fun h6 => ?_) (fun h6 => fin _ _ (by simp [partsP, h0, h1, h2, h3, h4, h5, show ¬ p.sorts.length ≤ 6 by omega]) (.refl _ _))⟩
  have h6 : p.sorts.length ≤ 6 := by omega
  refine ⟨_, _, _, bp.cell rfl, brd (fun h7 => ?_) (fun h7 => fin _ _ (by simp [partsP, h0, h1, h2, h3, h4, h5, h6, show ¬ p.tots.length ≤ 60 by omega]) (.refl _ _))⟩
  have h7 : p.tots.length ≤ 60 := by omega
  have e30 : Ext w3 w3 := .refl _ _
  refine ⟨_, _, _, (bp.ext e30).cell rfl, ?_⟩
  refine (contains_string rfl (h.ext (e3.trans' e30)).names h.l1 (tests1 w3)).mono ?_
  rintro _ v1 ⟨rfl, q1⟩
  have e31 := e30.trans' q1
  refine ⟨_, rfl, brnb (fun k0 => ?_) (fun k0 => fin _ _ (by simp only [partsP, k0]; simp [h0, h1, h2, h3, h4, h5, h6, h7]) e31)⟩
  refine ⟨_, _, _, (bp.ext e31).cell rfl, ?_⟩
  refine (contains_api_Value rfl (h.ext (e3.trans' e31)).consts h.l2 (tests2 v1)).mono ?_
  rintro _ v2 ⟨rfl, q2⟩
  have e32 := e31.trans' q2
  refine ⟨_, rfl, brnb (fun k1 => ?_) (fun k1 => fin _ _ (by simp only [partsP, k1]; simp [h0, h1, h2, h3, h4, h5, h6, h7, k0]) e32)⟩
  refine ⟨_, _, _, (bp.ext e32).cell rfl, ?_⟩
  refine (contains_api_Cur rfl (h.ext (e3.trans' e32)).curs h.l3 (tests3 v2)).mono ?_
  rintro _ v3 ⟨rfl, q3⟩
  have e33 := e32.trans' q3
  refine ⟨_, rfl, brnb (fun k2 => ?_) (fun k2 => fin _ _ (by simp only [partsP, k2]; simp [h0, h1, h2, h3, h4, h5, h6, h7, k0, k1]) e33)⟩
  refine ⟨_, _, _, (bp.ext e33).cell rfl, ?_⟩
  refine (contains_api_Sort rfl (h.ext (e3.trans' e33)).sorts h.l4 (tests4 (b3.ext e33))).mono ?_
  rintro _ v4 ⟨rfl, q4⟩
  have e34 := e33.trans' q4
  refine ⟨_, rfl, brnb (fun k3 => ?_) (fun k3 => fin _ _ (by simp only [partsP, k3]; simp [h0, h1, h2, h3, h4, h5, h6, h7, k0, k1, k2]) e34)⟩
  refine ⟨_, _, _, (bp.ext e34).cell rfl, ?_⟩
  refine (contains_api_Acc rfl (h.ext (e3.trans' e34)).tots h.l5 (tests5 v4)).mono ?_
  rintro _ v5 ⟨rfl, q5⟩
  have e35 := e34.trans' q5
  exact ⟨_, rfl, fin _ _ (by simp [partsP, h0, h1, h2, h3, h4, h5, h6, h7, k0, k1, k2, k3]) e35⟩
end Go.Proofs.YtaifphjenebgoaaGreatDoor
set_option linter.unusedVariables false
set_option linter.unusedSimpArgs false
namespace Go.Proofs.YtaifphjenebgoaaGreatDoor
open Go Go.Sx R1 K15
abbrev bptr (g : Nat) : Value := .pointer (some ⟨g, 0, none⟩)
theorem below1_spec {u : World} {g2 g : Nat} {n high : Int} (bn : Blk u g2 [.int .i64 n]) (bh : Blk u g [.int .i64 high]) :
    CallsV Tryz.prog 88 #[bptr g2, bptr g] u fun r w' => r = .bool (below n high) ∧ Ext u w' := by
  refine code_field_1_1.calls okay ?_
  unfold code_field_1_1.W
  refine ⟨_, bn.cell0 rfl, brd (fun h => ?_) (fun h => ?_)⟩
  · exact ⟨_, bn.cell0 rfl, _, bh.cell0 rfl, by simp [below, h], .refl _ _⟩
  · exact ⟨by simp [below, h], .refl _ _⟩
theorem below_spec (u : World) (g2 : Nat) (high : Int) :
    CallsV Tryz.prog 87 #[.int .i64 high, bptr g2] u fun r w' => ∃ g, r = .func (.func 88) #[] #[bptr g2, bptr g] ∧ Blk w' g [.int .i64 high] ∧ Ext u w' := by
  refine code_field_1.calls okay ?_
  unfold code_field_1.W
  intro g w' f
  exact ⟨g, rfl, f.blk, f.ext⟩
structure FCtx (w : World) (p : Prog) (a : PAd) (t n : Int) (g g1 g2 g3 : Nat) : Prop where
  P : PIm w p a
  bp : Blk w g (pcs p a)
  bt : Blk w g1 [.int .i64 t]
  bn : Blk w g2 [.int .i64 n]
  bb : Blk w g3 [.func (.func 87) #[] #[bptr g2]]
theorem FCtx.ext {w w' : World} {p : Prog} {a : PAd} {t n : Int} {g g1 g2 g3 : Nat} (h : FCtx w p a t n g g1 g2 g3) (e : Ext w w') : FCtx w' p a t n g g1 g2 g3 :=
  ⟨h.P.ext e, h.bp.ext e, h.bt.ext e, h.bn.ext e, h.bb.ext e⟩
section
variable {w : World} {p : Prog} {a : PAd} {t n : Int} {g g1 g2 g3 : Nat}
theorem field3_spec (h : FCtx w p a t n g g1 g2 g3) : CallsV Tryz.prog 91 #[bptr g2] w fun r w' => r = .bool (decide (n = 0)) ∧ Ext w w' := by
  refine code_field_3.calls okay ?_
  unfold code_field_3.W
  exact ⟨_, h.bn.cell0 rfl, rfl, .refl _ _⟩
theorem field4_spec (h : FCtx w p a t n g g1 g2 g3) : CallsV Tryz.prog 92 #[bptr g2, bptr g1, bptr g] w fun r w' => r = .bool (decide (t < n) && decide (n < p.code.length)) ∧ Ext w w' := by
  refine code_field_4.calls okay ?_
  unfold code_field_4.W
  refine ⟨_, h.bn.cell0 rfl, _, h.bt.cell0 rfl, brd (fun hq => ?_) (fun hq => ?_)⟩
  · exact ⟨_, h.bn.cell0 rfl, _, _, _, h.bp.cell rfl, by simp [hq], .refl _ _⟩
  · exact ⟨by simp [hq], .refl _ _⟩
theorem field5_spec (h : FCtx w p a t n g g1 g2 g3) : CallsV Tryz.prog 93 #[bptr g2, bptr g1] w fun r w' => r = .bool (decide (1 ≤ n) && decide (n ≤ t)) ∧ Ext w w' := by
  refine code_field_5.calls okay ?_
  unfold code_field_5.W
  refine ⟨_, h.bn.cell0 rfl, brd (fun hq => ?_) (fun hq => ?_)⟩
  · exact ⟨_, h.bn.cell0 rfl, _, h.bt.cell0 rfl, by simp [hq], .refl _ _⟩
  · exact ⟨by simp [hq], .refl _ _⟩
theorem field6_spec (h : FCtx w p a t n g g1 g2 g3) : CallsV Tryz.prog 94 #[bptr g2, bptr g] w fun r w' => r = .bool (decide (1 ≤ n) && decide (n ≤ p.regs)) ∧ Ext w w' := by
  refine code_field_6.calls okay ?_
  unfold code_field_6.W
  refine ⟨_, h.bn.cell0 rfl, brd (fun hq => ?_) (fun hq => ?_)⟩
  · exact ⟨_, h.bn.cell0 rfl, _, h.bp.cell rfl, by simp [hq], .refl _ _⟩
  · exact ⟨by simp [hq], .refl _ _⟩
theorem field7_spec (u : World) (c : Cur) : CallsV Tryz.prog 95 #[.agg #[.string c.name, .bool c.ix, .bool c.wr]] u fun r w' => r = .bool c.ix ∧ Ext u w' := by
  refine code_field_7.calls okay ?_
  unfold code_field_7.W
  intro g w' f
  exact ⟨_, f.blk.cell rfl, rfl, f.ext⟩
theorem field8_spec (u : World) (c : Cur) : CallsV Tryz.prog 96 #[.agg #[.string c.name, .bool c.ix, .bool c.wr]] u fun r w' => r = .bool (!c.ix) ∧ Ext u w' := by
  refine code_field_8.calls okay ?_
  unfold code_field_8.W
  intro g w' f
  exact ⟨_, f.blk.cell rfl, rfl, f.ext⟩
theorem field9_spec (u : World) (c : Cur) : CallsV Tryz.prog 97 #[.agg #[.string c.name, .bool c.ix, .bool c.wr]] u fun r w' => r = .bool (!c.ix && c.wr) ∧ Ext u w' := by
  refine code_field_9.calls okay ?_
  unfold code_field_9.W
  intro g w' f
  refine ⟨_, f.blk.cell rfl, ?_⟩
  cases hx : c.ix with
  | true => exact ⟨by simp, f.ext⟩
  | false => exact ⟨_, f.blk.cell rfl, by simp, f.ext⟩
def AsksC (f : FuncId) (q : Cur → Bool) : Prop := bodied Tryz.prog f = true ∧ ∀ (u : World) (c : Cur), CallsV Tryz.prog f #[.agg #[.string c.name, .bool c.ix, .bool c.wr]] u fun r w' => r = .bool (q c) ∧ Ext u w'
theorem cursor_spec (u : World) (f : FuncId) :
    CallsV Tryz.prog 89 #[.func (.func f) #[] #[], bptr g3, bptr g, bptr g2] u fun r w' => ∃ k, r = .func (.func 90) #[] #[bptr g3, bptr g, bptr k, bptr g2] ∧ Blk w' k [.func (.func f) #[] #[]] ∧ Ext u w' := by
  refine code_field_2.calls okay ?_
  unfold code_field_2.W
  refine ⟨rfl, fun k w' f => ?_⟩
  exact ⟨k, rfl, f.blk, f.ext⟩
theorem cursor1_spec (h : FCtx w p a t n g g1 g2 g3) {f : FuncId} {q : Cur → Bool} (hq : AsksC f q) {k : Nat} (bk : Blk w k [.func (.func f) #[] #[]]) :
    CallsV Tryz.prog 90 #[bptr g3, bptr g, bptr k, bptr g2] w fun r w' => r = .bool (below n p.curs.length && q (curAt p n)) ∧ Ext w w' := by
  refine code_field_2_1.calls okay ?_
  unfold code_field_2_1.W
  refine ⟨fun u => Ext w u, Fr.drew NoB w, _, fun u e => (h.ext e).bb.cell0 rfl, _, _, _, fun u e => (h.ext e).bp.cell rfl, _, _, _, rfl, by kernel_rfl, ?_⟩
  refine (below_spec _ g2 p.curs.length).mono ?_
  rintro _ u ⟨k1, rfl, bk1, e1⟩
  have e1 : Ext w u := (Fr.drew NoB w).ext e1
  refine ⟨_, rfl, e1, _, _, _, rfl, by kernel_rfl, ?_⟩
  refine (below1_spec (h.ext e1).bn bk1).mono ?_
  rintro _ u2 ⟨rfl, e2⟩
  have e2 := e1.trans' e2
  refine ⟨_, rfl, e2, ?_⟩
  cases hb : below n p.curs.length with
  | false => rw [cond_false]; exact ⟨rfl, e2⟩
  | true =>
    rw [cond_true]
    simp only [below, Bool.and_eq_true, decide_eq_true_eq] at hb
    have hlt : n.toNat < p.curs.length := by omega
    obtain ⟨ad, hA, cs, hrep, hc⟩ := h.P.curs.get1 hlt
    have hcs : cs = [.string p.curs[n.toNat].name, .bool p.curs[n.toNat].ix, .bool p.curs[n.toNat].wr] := hrep
    subst hcs
    have hcur : curAt p n = p.curs[n.toNat] := by simp [curAt, hlt]
    have cell : ∀ (u : World), Ext w u → ∀ (j : Nat) (v : Value), [Value.string p.curs[n.toNat].name, .bool p.curs[n.toNat].ix, .bool p.curs[n.toNat].wr][j]? = some v → u.cell? ((ad.add (n.toNat * 3)).add j) = some v := fun u e j v hv => by
      rw [add_add]; exact e.cell (fun h => h) (hc j v hv)
    refine ⟨fun u => Ext w u, e2, _, fun u e => (bk.ext e).cell0 rfl, _, _, _, fun u e => (h.ext e).bp.cell rfl, _, fun u e => (h.ext e).bn.cell0 rfl, ad, hA, ⟨hb.1, hb.2⟩, _, fun u e => cell u e 0 _ rfl, _, fun u e => cell u e 1 _ rfl, _, fun u e => cell u e 2 _ rfl, f, _, _, rfl, hq.1, ?_⟩
    refine (hq.2 u2 p.curs[n.toNat]).mono ?_
    rintro _ u3 ⟨rfl, e3⟩
    have e3 := e2.trans' e3
    exact ⟨_, rfl, e3, e3, by rw [hcur]; rfl, e3⟩
theorem field10_spec (h : FCtx w p a t n g g1 g2 g3) : CallsV Tryz.prog 98 #[bptr g3, bptr g, bptr g2] w fun r w' => r = .bool (below n p.consts.length && decide ((constAt p n).k = 2)) ∧ Ext w w' := by
  refine code_field_10.calls okay ?_
  unfold code_field_10.W
  refine ⟨_, h.bb.cell0 rfl, _, _, _, h.bp.cell rfl, _, _, _, rfl, by kernel_rfl, ?_⟩
  refine (below_spec _ g2 p.consts.length).mono ?_
  rintro _ u ⟨k1, rfl, bk1, e1⟩
  refine ⟨_, rfl, _, _, _, rfl, by kernel_rfl, ?_⟩
  refine (below1_spec (h.ext e1).bn bk1).mono ?_
  rintro _ u2 ⟨rfl, e2⟩
  have e2 := e1.trans' e2
  refine ⟨_, rfl, ?_⟩
  cases hb : below n p.consts.length with
  | false => rw [cond_false]; exact ⟨rfl, e2⟩
  | true =>
    rw [cond_true]
    simp only [below, Bool.and_eq_true, decide_eq_true_eq] at hb
    have hlt : n.toNat < p.consts.length := by omega
    obtain ⟨ad, hA, cs, hrep, hc⟩ := h.P.consts.get1 hlt
    have hcs : cs = vc p.consts[n.toNat] := hrep
    subst hcs
    have hcur : constAt p n = p.consts[n.toNat] := by simp [constAt, hlt]
    exact ⟨_, _, _, (h.ext e2).bp.cell rfl, _, (h.ext e2).bn.cell0 rfl, ad, hA, ⟨hb.1, hb.2⟩, _, by rw [add_add]; exact e2.cell (fun h => h) (hc 0 _ rfl), by rw [hcur]; rfl, e2⟩
end
end Go.Proofs.YtaifphjenebgoaaGreatDoor
set_option linter.unusedVariables false
set_option linter.unusedSimpArgs false
namespace Go.Proofs.YtaifphjenebgoaaGreatDoor
open Go Go.Sx R1 K15
theorem getM_setM {α : Type} [DecidableEq α] (a : α) (v : Value) (c : α) : ∀ l : List (α × Value), getM (setM l a v) c = if c = a then some v else getM l c
  | [] => by simp only [setM, getM]
  | (x, u) :: l => by
    by_cases h : a = x
    · subst h
      by_cases hc : c = a <;> simp [setM, getM, hc]
    · rw [setM, if_neg h, getM, getM, getM_setM a v c l]
      by_cases hc : c = x
      · subst hc
        rw [if_pos rfl, if_pos rfl, if_neg (fun e => h e.symm)]
      · rw [if_neg hc, if_neg hc]
def AnsF (w1 u : World) (v : Value) (b : Bool) : Prop :=
  ∃ (fid : FuncId) (captured : Array Value) (k : Nat) (cur : List Value), v = .func (.func fid) #[] captured ∧ bodied Tryz.prog fid = true ∧ Blk u k cur ∧
    ∀ u', Ext w1 u' → Blk u' k cur → CallsV Tryz.prog fid captured u' fun r w' => r = .bool b ∧ Ext u' w'
theorem AnsF.keep {w1 u u' : World} {v : Value} {b : Bool} {S : Nat → Prop} (h : AnsF w1 u v b) (f : Fr S u u') (hS : ∀ k cur, Blk u k cur → ¬ S k) : AnsF w1 u' v b := by
  obtain ⟨fid, cap, k, cur, h1, h2, h3, h4⟩ := h
  exact ⟨fid, cap, k, cur, h1, h2, h3.keep f (hS k cur h3), h4⟩
theorem AnsF.ext {w1 u u' : World} {v : Value} {b : Bool} (h : AnsF w1 u v b) (e : Ext u u') : AnsF w1 u' v b := h.keep e fun _ _ _ h => h
abbrev kf : Int → Value := fun a => Value.int .u8 a
theorem mapk_apart {u : World} {M : Nat} {l : List (Int × Value)} (h : MapK kf u M l) (k : Nat) (cur : List Value) (hb : Blk u k cur) : ¬ (k = M) := by
  rintro rfl
  obtain ⟨es, c, h1, _⟩ := h
  obtain ⟨e, h2⟩ := hb
  rw [h1] at h2; cases h2
def GF (w1 : World) (ans : Int → Bool) (calls : List (Nat × Nat × Int)) (ins : List (Nat × Int)) (D : Nat → Bool) (ν : Nat → Value) (u : World) : Prop :=
  Ext w1 u ∧ (∀ p ∈ calls, D p.1 = true → AnsF w1 u (ν p.2.1) (ans p.2.2)) ∧ (∀ p ∈ ins, D p.1 = true → D 0 = true) ∧
  (D 0 = true → ∃ M l, ν 14 = .map (some M) ∧ w1.heap.size ≤ M ∧ MapK kf u M l ∧ (∀ c v, getM l c = some v → AnsF w1 u v (ans c)) ∧ ∀ p ∈ ins, D p.1 = true → (getM l p.2).isSome = true)
theorem setD_ne {D : Nat → Bool} {i j : Nat} (h : j ≠ i) : setD D i j = D j := by
  have : Nat.beq j i = false := by cases hb : Nat.beq j i with | false => rfl | true => exact absurd (Nat.eq_of_beq_eq_true hb) h
  simp [setD, this]
theorem setD_eq {D : Nat → Bool} {i : Nat} : setD D i i = true := by simp [setD]
theorem setD_case {D : Nat → Bool} {i j : Nat} (h : setD D i j = true) : j = i ∨ (j ≠ i ∧ D j = true) := by
  by_cases hj : j = i
  · exact .inl hj
  · rw [setD_ne hj] at h; exact .inr ⟨hj, h⟩
theorem setNuV_ne {ν : Nat → Value} {d t : Nat} {v : Value} (h : t ≠ d) : setNuV ν (some d) v t = ν t := by
  have : Nat.beq t d = false := by cases hb : Nat.beq t d with | false => rfl | true => exact absurd (Nat.eq_of_beq_eq_true hb) h
  simp [setNuV, this]
theorem setNuV_eq {ν : Nat → Value} {d : Nat} {v : Value} : setNuV ν (some d) v d = v := by simp [setNuV]
theorem keyLet : KeyF Tryz.prog 5 (.int .u8) kf := keyInt (by kernel_rfl)
theorem mapLet : und Tryz.prog 135 = some (.map 5 31) := by kernel_rfl
def tcalls : List (Nat × Nat × Int) := [(6, 19, 114), (12, 24, 107), (17, 28, 98), (23, 33, 115), (29, 38, 116), (35, 43, 99), (38, 45, 50), (41, 47, 49), (44, 49, 102), (47, 51, 120), (56, 56, 105), (59, 58, 108), (62, 60, 119)]
def tins : List (Nat × Int) := [(2, 45), (7, 114), (13, 107), (18, 98), (24, 115), (30, 116), (36, 99), (39, 50), (42, 49), (45, 102), (48, 120), (50, 106), (52, 110), (54, 109), (57, 105), (60, 108), (63, 119), (65, 113)]
section
variable {w1 : World} {ans : Int → Bool} {D : Nat → Bool} {ν : Nat → Value} {u : World}
theorem tc_ne : ∀ p ∈ tcalls, p.1 ≠ 0 ∧ p.2.1 ≠ 14 := by decide
theorem ti_ne : ∀ p ∈ tins, p.1 ≠ 0 := by decide
theorem G_map (h : GF w1 ans tcalls tins D ν u) (h0 : D 0 = false) : GF w1 ans tcalls tins (setD D 0) (setNuV ν (some 14) (.map (some u.heap.size))) (u.alloc (.map #[] 0)) := by
  have e : Ext u (u.alloc (.map #[] 0)) := Fr.alloc NoB _ _
  refine ⟨h.1.trans' e, fun p hp hd => ?_, fun _ _ _ => setD_eq, fun _ => ⟨_, [], setNuV_eq, h.1.size, MapK.new _ _, fun c v hv => (by cases hv), fun p hp hd => ?_⟩⟩
  · obtain ⟨n1, n2⟩ := tc_ne p hp
    rw [setD_ne n1] at hd
    rw [setNuV_ne n2]
    exact (h.2.1 p hp hd).ext e
  · rw [setD_ne (ti_ne p hp)] at hd
    have := h.2.2.1 p hp hd
    rw [h0] at this; cases this
theorem G_call {i t : Nat} {c : Int} (hm : (∀ p ∈ tcalls, (p.1 = i → p.2.1 = t) ∧ (p.2.1 = t → p.2.2 = c)) ∧ (∀ p ∈ tins, p.1 ≠ i)) (hn : i ≠ 0 ∧ t ≠ 14) (h : GF w1 ans tcalls tins D ν u) {u' : World} (e : Ext u u') {v : Value} (ha : AnsF w1 u' v (ans c)) :
    GF w1 ans tcalls tins (setD D i) (setNuV ν (some t) v) u' := by
  refine ⟨h.1.trans' e, fun p hp hd => ?_, fun p hp hd => ?_, fun hd => ?_⟩
  · obtain ⟨m1, m2⟩ := hm.1 p hp
    by_cases ht : p.2.1 = t
    · rw [ht, setNuV_eq, m2 ht]; exact ha
    · rw [setNuV_ne ht]
      rcases setD_case hd with hi | ⟨_, hd⟩
      · exact absurd (m1 hi) ht
      · exact (h.2.1 p hp hd).ext e
  · rw [setD_ne (hm.2 p hp)] at hd
    rw [setD_ne (fun e => hn.1 e.symm)]
    exact h.2.2.1 p hp hd
  · rw [setD_ne (fun e => hn.1 e.symm)] at hd
    obtain ⟨M, l, h1, h2, h3, h4, h5⟩ := h.2.2.2 hd
    refine ⟨M, l, by rw [setNuV_ne (fun e => hn.2 e.symm)]; exact h1, h2, h3.ext e, fun c v hv => (h4 c v hv).ext e, fun p hp hd => h5 p hp ?_⟩
    rw [setD_ne (hm.2 p hp)] at hd; exact hd
theorem G_ins {i : Nat} {c : Int} (hm : (∀ p ∈ tins, p.1 = i → p.2 = c) ∧ ∀ p ∈ tcalls, p.1 ≠ i) (hn : i ≠ 0) (h : GF w1 ans tcalls tins D ν u) (h0 : D 0 = true) {v : Value} (ha : AnsF w1 u v (ans c)) :
    ∃ M, ν 14 = .map M ∧ ∃ w', RunsTo Tryz.prog (Instr.mapUpdate 135 (.map M) (.int .u8 c) v) u () w' ∧ GF w1 ans tcalls tins (setD D i) (setNuV ν none undef) w' := by
  obtain ⟨M, l, h1, h2, h3, h4, h5⟩ := h.2.2.2 h0
  obtain ⟨w', hr, hm', hf⟩ := h3.update keyLet mapLet c v
  have hap := mapk_apart h3
  refine ⟨_, h1, w', hr, h.1.trans hf (fun _ _ h => h) (fun k hk e => absurd hk (by omega)), fun p hp hd => ?_, fun p hp hd => ?_, fun _ => ⟨M, _, h1, h2, hm', fun c' v' hv => ?_, fun p hp hd => ?_⟩⟩
  · rw [setD_ne (hm.2 p hp)] at hd
    exact (h.2.1 p hp hd).keep hf hap
  · rw [setD_ne (fun e => hn e.symm)]; exact h0
  · rw [getM_setM] at hv
    split at hv
    · rename_i e; cases hv; subst e; exact ha.keep hf hap
    · exact (h4 c' v' hv).keep hf hap
  · rw [getM_setM]
    by_cases hpc : p.2 = c
    · rw [if_pos hpc]; rfl
    · rw [if_neg hpc]
      rcases setD_case hd with hi | ⟨_, hd⟩
      · exact absurd (hm.1 p hp hi) hpc
      · exact h5 p hp hd
end
section
variable {w1 : World} {p : Prog} {a : PAd} {t n : Int} {g g1 g2 g3 : Nat}
theorem ans_below (hc : FCtx w1 p a t n g g1 g2 g3) {u : World} (e : Ext w1 u) {k : Nat} {high : Int} (bk : Blk u k [.int .i64 high]) {b : Bool} (hb : b = below n high) :
    AnsF w1 u (.func (.func 88) #[] #[bptr g2, bptr k]) b :=
  ⟨_, _, k, _, rfl, by kernel_rfl, bk, fun u' e' b' => by rw [hb]; exact below1_spec (hc.ext e').bn b'⟩
theorem ans_cur (hc : FCtx w1 p a t n g g1 g2 g3) {u : World} (e : Ext w1 u) {f : FuncId} {q : Cur → Bool} (hq : AsksC f q) {k : Nat} (bk : Blk u k [.func (.func f) #[] #[]]) {b : Bool} (hb : b = (below n p.curs.length && q (curAt p n))) :
    AnsF w1 u (.func (.func 90) #[] #[bptr g3, bptr g, bptr k, bptr g2]) b :=
  ⟨_, _, k, _, rfl, by kernel_rfl, bk, fun u' e' b' => by rw [hb]; exact cursor1_spec (hc.ext e') hq b'⟩
end
theorem letters_in : ∀ l ∈ letters, ∃ q ∈ tins, q.2 = l := by decide
set_option maxRecDepth 10000 in
theorem field_spec {w : World} {p : Prog} {a : PAd} (h : PIm w p a) (t l n : Int) (hl : l ∈ letters) :
    CallsV Tryz.prog 47 #[pagg p a, .int .i64 t, .int .u8 l, .int .i64 n] w fun r w' => r = .bool (fieldP p t l n) ∧ Ext w w' := by
  refine code_field.calls okay ?_
  unfold code_field.W
  intro g wa fa g1 wb fb g2 wc fc g3 wd fd
  refine ⟨rfl, rfl, fd.blk.stOK [_] 0 (by simp), fun w1 hw1 => ?_⟩
  have ed : Ext wc wd := fd.ext
  have hc : FCtx w1 p a t n g g1 g2 g3 := by
    have k1 : ∀ {k : Nat} {cur : List Value}, Blk wc k cur → Blk w1 k cur := fun {k cur} b => by
      rw [hw1]
      exact (b.ext ed).keep (Fr.setAll (g := g3) (o := 0) _ 0 wd) (fun e => by have := fd.ge; have := b.lt; omega)
    refine ⟨?_, k1 ((fa.blk.ext fb.ext).ext fc.ext), k1 (fb.blk.ext fc.ext), k1 fc.blk, ?_⟩
    · rw [hw1]
      exact h.ext (Ext.setAll (((fa.ext.trans' fb.ext).trans' fc.ext).trans' ed) (Nat.le_trans (((fa.ext.trans' fb.ext).trans' fc.ext).size) fd.ge) _ _)
    · rw [hw1]; exact Blk.setAll (o := 0) [_] 0 fd.blk
  have e0 : Ext w w1 := by rw [hw1]; exact Ext.setAll (((fa.ext.trans' fb.ext).trans' fc.ext).trans' ed) (Nat.le_trans (((fa.ext.trans' fb.ext).trans' fc.ext).size) fd.ge) _ _
  clear hw1 fa fb fc fd ed
  refine ⟨fun u => Ext w1 u, Fr.drew NoB w1, _, fun u e => (hc.ext e).bb.cell0 rfl, _, fun u e => (hc.ext e).bp.cell rfl, _, fun u e => (hc.ext e).bb.cell0 rfl, _, _, _, fun u e => (hc.ext e).bp.cell rfl, _, fun u e => (hc.ext e).bb.cell0 rfl, _, fun u e => (hc.ext e).bp.cell rfl,
    _, fun u e => (hc.ext e).bb.cell0 rfl, _, _, _, fun u e => (hc.ext e).bp.cell rfl, _, fun u e => (hc.ext e).bb.cell0 rfl, _, _, _, fun u e => (hc.ext e).bp.cell rfl, _, fun u e => (hc.ext e).bb.cell0 rfl, _, _, _, fun u e => (hc.ext e).bp.cell rfl,
    _, fun u e => (hc.ext e).bb.cell0 rfl, _, fun u e => (hc.ext e).bb.cell0 rfl, _, fun u e => (hc.ext e).bb.cell0 rfl, _, fun u e => (hc.ext e).bb.cell0 rfl, GF w1 (fun c => fieldP p t c n) tcalls tins, ?_, fun D ν u hG => hG.1, ?_, ?_⟩
  · intro ν
    exact ⟨Fr.drew NoB w1, fun _ _ h => (by cases h), fun _ _ h => (by cases h), fun h => (by cases h)⟩
  · refine ⟨?_, ?_, ?_, ?_, ?_, ?_, ?_, ?_, ?_, ?_, ?_, ?_, ?_, ?_, ?_, ?_, ?_, ?_, ?_, ?_, ?_, ?_, ?_, ?_, ?_, ?_, ?_, ?_, ?_, ?_, ?_, ?_⟩
    · intro D ν u hG h0
      exact ⟨_, _, makeMap_run _ _, G_map hG h0⟩
    · intro D ν u hG _ h0
      exact G_ins (i := 2) (c := 45) (by decide) (by decide) hG h0 ⟨_, _, _, _, rfl, by kernel_rfl, (hc.ext hG.1).bn, fun u e _ => by
        refine (field3_spec (hc.ext e)).mono ?_
        rintro r w' ⟨rfl, e1⟩
        exact ⟨by simp [fieldP], e1⟩⟩
    · intro D ν u hG h0
      refine ⟨_, _, _, rfl, by kernel_rfl, (below_spec u g2 _).mono ?_⟩
      rintro _ u1 ⟨k, rfl, bk, e⟩
      exact ⟨_, rfl, G_call (i := 6) (t := 19) (c := 114) (by decide) (by decide) hG e (ans_below hc (hG.1.trans' e) bk (by simp [fieldP]))⟩
    · intro D ν u hG _ h0 h1
      exact G_ins (i := 7) (c := 114) (by decide) (by decide) hG h0 (hG.2.1 (6, 19, 114) (by decide) h1)
    · intro D ν u hG h0 _
      refine ⟨_, _, _, rfl, by kernel_rfl, (below_spec u g2 _).mono ?_⟩
      rintro _ u1 ⟨k, rfl, bk, e⟩
      exact ⟨_, rfl, G_call (i := 12) (t := 24) (c := 107) (by decide) (by decide) hG e (ans_below hc (hG.1.trans' e) bk (by simp [fieldP]))⟩
    · intro D ν u hG _ h0 h1
      exact G_ins (i := 13) (c := 107) (by decide) (by decide) hG h0 (hG.2.1 (12, 24, 107) (by decide) h1)
    · intro D ν u hG h0 _
      refine ⟨_, _, _, rfl, by kernel_rfl, (below_spec u g2 _).mono ?_⟩
      rintro _ u1 ⟨k, rfl, bk, e⟩
      exact ⟨_, rfl, G_call (i := 17) (t := 28) (c := 98) (by decide) (by decide) hG e (ans_below hc (hG.1.trans' e) bk (by simp [fieldP]))⟩
    · intro D ν u hG _ h0 h1
      exact G_ins (i := 18) (c := 98) (by decide) (by decide) hG h0 (hG.2.1 (17, 28, 98) (by decide) h1)
    · intro D ν u hG h0 _
      refine ⟨_, _, _, rfl, by kernel_rfl, (below_spec u g2 _).mono ?_⟩
      rintro _ u1 ⟨k, rfl, bk, e⟩
      exact ⟨_, rfl, G_call (i := 23) (t := 33) (c := 115) (by decide) (by decide) hG e (ans_below hc (hG.1.trans' e) bk (by simp [fieldP]))⟩
    · intro D ν u hG _ h0 h1
      exact G_ins (i := 24) (c := 115) (by decide) (by decide) hG h0 (hG.2.1 (23, 33, 115) (by decide) h1)
    · intro D ν u hG h0 _
      refine ⟨_, _, _, rfl, by kernel_rfl, (below_spec u g2 _).mono ?_⟩
      rintro _ u1 ⟨k, rfl, bk, e⟩
      exact ⟨_, rfl, G_call (i := 29) (t := 38) (c := 116) (by decide) (by decide) hG e (ans_below hc (hG.1.trans' e) bk (by simp [fieldP]))⟩
    · intro D ν u hG _ h0 h1
      exact G_ins (i := 30) (c := 116) (by decide) (by decide) hG h0 (hG.2.1 (29, 38, 116) (by decide) h1)
    · intro D ν u hG h0 _
      refine ⟨_, _, _, rfl, by kernel_rfl, (below_spec u g2 _).mono ?_⟩
      rintro _ u1 ⟨k, rfl, bk, e⟩
      exact ⟨_, rfl, G_call (i := 35) (t := 43) (c := 99) (by decide) (by decide) hG e (ans_below hc (hG.1.trans' e) bk (by simp [fieldP]))⟩
    · intro D ν u hG _ h0 h1
      exact G_ins (i := 36) (c := 99) (by decide) (by decide) hG h0 (hG.2.1 (35, 43, 99) (by decide) h1)
    · intro D ν u hG h0 _
      refine ⟨_, _, _, rfl, by kernel_rfl, (below_spec u g2 _).mono ?_⟩
      rintro _ u1 ⟨k, rfl, bk, e⟩
      exact ⟨_, rfl, G_call (i := 38) (t := 45) (c := 50) (by decide) (by decide) hG e (ans_below hc (hG.1.trans' e) bk (by simp [fieldP]))⟩
    · intro D ν u hG _ h0 h1
      exact G_ins (i := 39) (c := 50) (by decide) (by decide) hG h0 (hG.2.1 (38, 45, 50) (by decide) h1)
    · intro D ν u hG h0 _
      refine ⟨_, _, _, rfl, by kernel_rfl, (below_spec u g2 _).mono ?_⟩
      rintro _ u1 ⟨k, rfl, bk, e⟩
      exact ⟨_, rfl, G_call (i := 41) (t := 47) (c := 49) (by decide) (by decide) hG e (ans_below hc (hG.1.trans' e) bk (by simp [fieldP]))⟩
    · intro D ν u hG _ h0 h1
      exact G_ins (i := 42) (c := 49) (by decide) (by decide) hG h0 (hG.2.1 (41, 47, 49) (by decide) h1)
    · intro D ν u hG h0 _
      refine ⟨_, _, _, rfl, by kernel_rfl, (below_spec u g2 _).mono ?_⟩
      rintro _ u1 ⟨k, rfl, bk, e⟩
      exact ⟨_, rfl, G_call (i := 44) (t := 49) (c := 102) (by decide) (by decide) hG e (ans_below hc (hG.1.trans' e) bk (by simp [fieldP]))⟩
    · intro D ν u hG _ h0 h1
      exact G_ins (i := 45) (c := 102) (by decide) (by decide) hG h0 (hG.2.1 (44, 49, 102) (by decide) h1)
    · intro D ν u hG h0 _
      refine ⟨_, _, _, rfl, by kernel_rfl, (below_spec u g2 _).mono ?_⟩
      rintro _ u1 ⟨k, rfl, bk, e⟩
      exact ⟨_, rfl, G_call (i := 47) (t := 51) (c := 120) (by decide) (by decide) hG e (ans_below hc (hG.1.trans' e) bk (by simp [fieldP]))⟩
    · intro D ν u hG _ h0 h1
      exact G_ins (i := 48) (c := 120) (by decide) (by decide) hG h0 (hG.2.1 (47, 51, 120) (by decide) h1)
    · intro D ν u hG _ h0
      exact G_ins (i := 50) (c := 106) (by decide) (by decide) hG h0 ⟨_, _, _, _, rfl, by kernel_rfl, (hc.ext hG.1).bn, fun u e _ => by
        refine (field4_spec (hc.ext e)).mono ?_
        rintro r w' ⟨rfl, e1⟩
        exact ⟨by simp [fieldP], e1⟩⟩
    · intro D ν u hG _ h0
      exact G_ins (i := 52) (c := 110) (by decide) (by decide) hG h0 ⟨_, _, _, _, rfl, by kernel_rfl, (hc.ext hG.1).bn, fun u e _ => by
        refine (field5_spec (hc.ext e)).mono ?_
        rintro r w' ⟨rfl, e1⟩
        exact ⟨by simp [fieldP], e1⟩⟩
    · intro D ν u hG _ h0
      exact G_ins (i := 54) (c := 109) (by decide) (by decide) hG h0 ⟨_, _, _, _, rfl, by kernel_rfl, (hc.ext hG.1).bn, fun u e _ => by
        refine (field6_spec (hc.ext e)).mono ?_
        rintro r w' ⟨rfl, e1⟩
        exact ⟨by simp [fieldP], e1⟩⟩
    · intro D ν u hG h0 _
      refine ⟨_, _, _, rfl, by kernel_rfl, (cursor_spec u _).mono ?_⟩
      rintro _ u1 ⟨k, rfl, bk, e⟩
      exact ⟨_, rfl, G_call (i := 56) (t := 56) (c := 105) (by decide) (by decide) hG e (ans_cur hc (hG.1.trans' e) ⟨by kernel_rfl, field7_spec⟩ bk (by simp [fieldP]))⟩
    · intro D ν u hG _ h0 h1
      exact G_ins (i := 57) (c := 105) (by decide) (by decide) hG h0 (hG.2.1 (56, 56, 105) (by decide) h1)
    · intro D ν u hG h0 _
      refine ⟨_, _, _, rfl, by kernel_rfl, (cursor_spec u _).mono ?_⟩
      rintro _ u1 ⟨k, rfl, bk, e⟩
      exact ⟨_, rfl, G_call (i := 59) (t := 58) (c := 108) (by decide) (by decide) hG e (ans_cur hc (hG.1.trans' e) ⟨by kernel_rfl, field8_spec⟩ bk (by simp [fieldP]))⟩
    · intro D ν u hG _ h0 h1
      exact G_ins (i := 60) (c := 108) (by decide) (by decide) hG h0 (hG.2.1 (59, 58, 108) (by decide) h1)
    · intro D ν u hG h0 _
      refine ⟨_, _, _, rfl, by kernel_rfl, (cursor_spec u _).mono ?_⟩
      rintro _ u1 ⟨k, rfl, bk, e⟩
      exact ⟨_, rfl, G_call (i := 62) (t := 60) (c := 119) (by decide) (by decide) hG e (ans_cur hc (hG.1.trans' e) ⟨by kernel_rfl, field9_spec⟩ bk (by simp [fieldP]))⟩
    · intro D ν u hG _ h0 h1
      exact G_ins (i := 63) (c := 119) (by decide) (by decide) hG h0 (hG.2.1 (62, 60, 119) (by decide) h1)
    · intro D ν u hG _ h0
      exact G_ins (i := 65) (c := 113) (by decide) (by decide) hG h0 ⟨_, _, _, _, rfl, by kernel_rfl, (hc.ext hG.1).bn, fun u e _ => by
        refine (field10_spec (hc.ext e)).mono ?_
        rintro r w' ⟨rfl, e1⟩
        exact ⟨by simp [fieldP], e1⟩⟩
  · intro D ν u d0 d2 d6 d7 d12 d13 d17 d18 d23 d24 d29 d30 d35 d36 d38 d39 d41 d42 d44 d45 d47 d48 d50 d52 d54 d56 d57 d59 d60 d62 d63 d65 hG
    obtain ⟨M, m, h1, h2, h3, h4, h5⟩ := hG.2.2.2 d0
    obtain ⟨q, hq, hql⟩ := letters_in l hl
    have hd : ∀ q ∈ tins, D q.1 = true := fun q hq => by
      simp only [tins, List.mem_cons, List.mem_nil_iff, or_false] at hq
      rcases hq with rfl | rfl | rfl | rfl | rfl | rfl | rfl | rfl | rfl | rfl | rfl | rfl | rfl | rfl | rfl | rfl | rfl | rfl <;> assumption
    have hs := h5 q hq (hd q hq)
    rw [hql] at hs
    obtain ⟨v, hv⟩ := Option.isSome_iff_exists.1 hs
    obtain ⟨_, hr⟩ := h3.look keyLet mapLet l (z := Value.nilFunc) (fun w => by kernel_rfl)
    rw [hv] at hr
    obtain ⟨fid, cap, k, cur, rfl, hb, bk, hcall⟩ := h4 l v hv
    refine ⟨_, h1, _, _, hr, fid, _, _, rfl, hb, ?_⟩
    have := hcall u hG.1 bk
    simp only [List.nil_append, Array.toArray_toList]
    refine this.mono ?_
    rintro _ u' ⟨rfl, e⟩
    exact ⟨_, rfl, rfl, (e0.trans' hG.1).trans' e⟩
end Go.Proofs.YtaifphjenebgoaaGreatDoor
set_option linter.unusedVariables false
set_option linter.unusedSimpArgs false
namespace Go.Proofs.YtaifphjenebgoaaGreatDoor
open Go Go.Sx R1 K15
theorem fields_of {p : Prog} {t : Int} {i : Ins} {x y z u : UInt8} (hs : shapeP i.op = [x, y, z, u]) (h : fieldsP p t i = true) :
    fieldP p t x.toNat i.a = true ∧ fieldP p t y.toNat i.b = true ∧ fieldP p t z.toNat i.c = true ∧ fieldP p t u.toNat i.d = true := by
  unfold fieldsP at h
  rw [hs] at h
  simp only [fieldsL, Bool.and_eq_true] at h
  exact h
theorem field_r {p : Prog} {t n : Int} (h : fieldP p t ((114 : UInt8).toNat : Int) n = true) : 0 ≤ n ∧ n < p.regs := by
  have h : fieldP p t 114 n = true := h
  simpa [fieldP, below] using h
theorem field_s {p : Prog} {t n : Int} (h : fieldP p t ((115 : UInt8).toNat : Int) n = true) : 0 ≤ n ∧ n < p.sorts.length := by
  have h : fieldP p t 115 n = true := h
  simpa [fieldP, below] using h
section
variable {w : World} {p : Prog} {a : PAd}
theorem fits_spec {g : Nat} (bp : Blk w g (pcs p a)) {f m : Int} (hr : 0 ≤ p.regs ∧ p.regs ≤ 250) (hf : 0 ≤ f ∧ f < p.regs) :
    CallsV Tryz.prog 99 #[.int .i64 f, .int .i64 m, .pointer (some ⟨g, 0, none⟩)] w fun r w' => r = .bool (fitsP p f m) ∧ w' = w := by
  refine code_runs_1.calls okay ?_
  unfold code_runs_1.W
  exact ⟨_, bp.cell rfl, by rw [wi _ (by omega) (by omega)]; rfl, rfl⟩
theorem insAt_imm (h : PIm w p a) {t : Nat} (ht : t < p.code.length) : ∃ ad, a.dA = some ad ∧ ∀ (u : World), Ext w u → ∀ (j : Nat) (v : Value), [Value.int .u8 p.code[t].op, .int .i64 p.code[t].a, .int .i64 p.code[t].b, .int .i64 p.code[t].c, .int .i64 p.code[t].d][j]? = some v → u.cell? ((ad.add (t * 5)).add j) = some v := by
  obtain ⟨ad, hA, cs, hrep, hc⟩ := h.code.get1 ht
  have hcs : cs = [.int .u8 p.code[t].op, .int .i64 p.code[t].a, .int .i64 p.code[t].b, .int .i64 p.code[t].c, .int .i64 p.code[t].d] := hrep
  subst hcs
  exact ⟨ad, hA, fun u e j v hv => by rw [add_add]; exact e.cell (fun h => h) (hc j v hv)⟩
theorem srtAt_imm (h : PIm w p a) {n : Int} (hn : 0 ≤ n ∧ n < p.sorts.length) : ∃ ad, a.sA = some ad ∧ ∃ A c, ∀ (u : World), Ext w u → ∀ (j : Nat) (v : Value), [Value.slice A (srtAt p n).desc.length c, .int .i64 (srtAt p n).cols, .bool (srtAt p n).dist][j]? = some v → u.cell? ((ad.add (n.toNat * 3)).add j) = some v := by
  have hlt : n.toNat < p.sorts.length := by omega
  obtain ⟨ad, hA, cs, hrep, hc⟩ := h.sorts.get1 hlt
  have e : srtAt p n = p.sorts[n.toNat] := by simp [srtAt, hlt]
  obtain ⟨A, c, hcs, _⟩ := id hrep
  subst hcs
  rw [e]
  exact ⟨ad, hA, A, c, fun u e j v hv => by rw [add_add]; exact e.cell (fun h => h) (hc j v hv)⟩
set_option maxRecDepth 10000 in
theorem runs_spec (h : PIm w p a) (hT : Tab w) {t : Nat} (ht : t < p.code.length) (hr : 0 ≤ p.regs ∧ p.regs ≤ 250) (hf : fieldsP p t p.code[t] = true) :
    CallsV Tryz.prog 48 #[pagg p a, .int .i64 t] w fun r w' => r = .bool (runsP p t p.code[t]) ∧ Ext w w' := by
  refine code_runs.calls okay ?_
  unfold code_runs.W
  intro g wa fa
  obtain ⟨ad, hA, hc⟩ := insAt_imm h ht
  refine ⟨_, _, _, fa.blk.cell rfl, ad, hA, ⟨by omega, by omega⟩, _, by rw [Int.toNat_natCast]; exact hc wa fa.ext 0 _ rfl, _, by rw [Int.toNat_natCast]; exact hc wa fa.ext 1 _ rfl, _, by rw [Int.toNat_natCast]; exact hc wa fa.ext 2 _ rfl,
    _, by rw [Int.toNat_natCast]; exact hc wa fa.ext 3 _ rfl, _, by rw [Int.toNat_natCast]; exact hc wa fa.ext 4 _ rfl, ?_⟩
  intro g1 wb fb
  refine ⟨fb.blk.stOK [_, _, _, _, _] 0 (by simp), fun w1 hw1 => ?_⟩
  have bi : Blk w1 g1 [.int .u8 p.code[t].op, .int .i64 p.code[t].a, .int .i64 p.code[t].b, .int .i64 p.code[t].c, .int .i64 p.code[t].d] := by rw [hw1]; exact Blk.setAll (o := 0) [_, _, _, _, _] 0 fb.blk
  have bp : Blk w1 g (pcs p a) := by
    rw [hw1]; exact (fa.blk.ext fb.ext).keep (Fr.setAll (g := g1) (o := 0) _ 0 wb) (fun e => by have := fb.ge; have := fa.blk.lt; omega)
  have e1 : Ext w w1 := by rw [hw1]; exact Ext.setAll (fa.ext.trans' fb.ext) (Nat.le_trans fa.ext.size fb.ge) _ _
  clear hw1 fa fb hc
  generalize hi : p.code[t] = i at *
  unfold runsP
  refine ⟨_, bi.cell rfl, brd (fun h8 => ?_) (fun h8 => ?_)⟩
  · rw [if_pos h8]
    obtain ⟨q1, q2, q3, q4⟩ := fields_of (x := 114) (y := 114) (z := 109) (u := 102) (by rw [h8]; decide) hf
    refine ⟨_, bi.cell rfl, (Func_spec (hT.ext e1) i.d).mono ?_⟩
    rintro _ u ⟨rfl, e2⟩
    have e := e1.trans' e2
    refine ⟨_, _, rfl, _, (bi.ext e2).cell rfl, brd (fun hq => ?_) (fun hq => ⟨by simp [hq], e⟩)⟩
    refine ⟨_, (bi.ext e2).cell rfl, _, (bi.ext e2).cell rfl, (fits_spec (bp.ext e2) hr (field_r q2)).mono ?_⟩
    rintro _ u' ⟨rfl, hu⟩
    obtain rfl : u = u' := hu.symm
    refine ⟨_, rfl, cbool (fun hq2 => ?_) (fun hq2 => ⟨by simp [hq, hq2], e⟩)⟩
    refine ⟨_, (bi.ext e2).cell rfl, (Known_spec u _ i.c).mono ?_⟩
    rintro _ u' ⟨rfl, hu⟩
    obtain rfl : u = u' := hu.symm
    refine ⟨_, rfl, ?_, e⟩
    rw [hq2, decide_eq_true hq, Bool.true_and, Bool.true_and]
    have : (nth fNames i.d).1 = fnAt i.d := by unfold nth fnAt; split <;> rfl
    rw [this]
  rw [if_neg h8]
  refine brd (fun h12 => ?_) (fun h12 => ?_)
  · rw [if_pos h12]
    obtain ⟨q1, q2, q3, q4⟩ := fields_of (x := 106) (y := 114) (z := 114) (u := 109) (by rw [h12]; decide) hf
    refine ⟨_, bi.cell rfl, _, bi.cell rfl, (fits_spec bp hr (field_r q2)).mono ?_⟩
    rintro _ u' ⟨rfl, hu⟩
    obtain rfl : w1 = u' := hu.symm
    refine ⟨_, rfl, cbool (fun hq2 => ?_) (fun hq2 => ⟨by simp [hq2], e1⟩)⟩
    refine ⟨_, bi.cell rfl, _, bi.cell rfl, (fits_spec bp hr (field_r q3)).mono ?_⟩
    rintro _ u' ⟨rfl, hu⟩
    obtain rfl : w1 = u' := hu.symm
    exact ⟨_, rfl, by simp [hq2], e1⟩
  rw [if_neg h12]
  refine ⟨fun x u => x = decide (i.op = 14 ∨ i.op = 16) ∧ u = w1, ?_, ?_⟩
  rotate_left
  · exact brd (fun h => ⟨by simp [h], rfl⟩) (fun h => ⟨by simp [h], rfl⟩)
  rintro x u ⟨rfl, hu⟩
  obtain rfl : w1 = u := hu.symm
  refine brd (fun h14 => ?_) (fun h14 => ?_)
  · rw [if_pos h14]
    obtain ⟨q1, q2, q3, q4⟩ := fields_of (x := 105) (y := 106) (z := 114) (u := 109) (by rcases h14 with h | h <;> rw [h] <;> decide) hf
    refine ⟨_, bi.cell rfl, _, bi.cell rfl, (fits_spec bp hr (field_r q3)).mono ?_⟩
    rintro _ u' ⟨rfl, hu⟩
    obtain rfl : w1 = u' := hu.symm
    exact ⟨_, rfl, rfl, e1⟩
  rw [if_neg h14]
  refine brd (fun h18 => ?_) (fun h18 => ?_)
  · rw [if_pos h18]
    exact ⟨_, bi.cell rfl, rfl, e1⟩
  rw [if_neg h18]
  refine brd (fun h23 => ?_) (fun h23 => ?_)
  · rw [if_pos h23]
    obtain ⟨q1, q2, q3, q4⟩ := fields_of (x := 114) (y := 115) (z := 120) (u := 45) (by rw [h23]; decide) hf
    have hs := field_s q2
    obtain ⟨ad, hA, A, c, hcell⟩ := srtAt_imm h hs
    exact ⟨fun u => Ext w1 u, Fr.drew NoB w1, _, fun u e => (bi.ext e).cell rfl, _, _, _, fun u e => (bp.ext e).cell rfl, _, fun u e => (bi.ext e).cell rfl, ad, hA, ⟨hs.1, hs.2⟩, _, fun u e => hcell u (e1.trans' e) 1 _ rfl, rfl, e1.drew⟩
  rw [if_neg h23]
  refine brd (fun h20 => ?_) (fun h20 => ?_)
  · rw [if_pos h20]
    obtain ⟨q1, q2, q3, q4⟩ := fields_of (x := 115) (y := 114) (z := 114) (u := 45) (by rw [h20]; decide) hf
    have hs := field_s q1
    obtain ⟨ad, hA, A, c, hcell⟩ := srtAt_imm h hs
    have ed : Ext w1 w1.drew := Fr.drew NoB w1
    refine ⟨fun u => Ext w1 u, ed, _, fun u e => (bi.ext e).cell rfl, _, _, _, fun u e => (bp.ext e).cell rfl, _, fun u e => (bi.ext e).cell rfl, ad, hA, ⟨hs.1, hs.2⟩, _, _, _, fun u e => hcell u (e1.trans' e) 0 _ rfl, (fits_spec (bp.ext ed) hr (field_r q2)).mono ?_⟩
    rintro _ u' ⟨rfl, hu⟩
    obtain rfl : w1.drew = u' := hu.symm
    refine ⟨_, rfl, ed, cbool (fun hq2 => ?_) (fun hq2 => ⟨by simp [hq2], e1.drew⟩)⟩
    refine ⟨fun u => Ext w1 u, ed, _, fun u e => (bi.ext e).cell rfl, _, _, _, fun u e => (bp.ext e).cell rfl, _, fun u e => (bi.ext e).cell rfl, ad, hA, ⟨hs.1, hs.2⟩, _, fun u e => hcell u (e1.trans' e) 1 _ rfl, (fits_spec (bp.ext ed) hr (field_r q3)).mono ?_⟩
    rintro _ u' ⟨rfl, hu⟩
    obtain rfl : w1.drew = u' := hu.symm
    exact ⟨_, rfl, ed, ed, by simp [hq2], e1.drew⟩
  rw [if_neg h20]
  refine brd (fun h27 => ?_) (fun h27 => ?_)
  · rw [if_pos h27]
    obtain ⟨q1, q2, q3, q4⟩ := fields_of (x := 114) (y := 45) (z := 45) (u := 45) (by rw [h27]; decide) hf
    refine ⟨_, bi.cell rfl, _, _, _, bp.cell rfl, (fits_spec bp hr (field_r q1)).mono ?_⟩
    rintro _ u' ⟨rfl, hu⟩
    obtain rfl : w1 = u' := hu.symm
    exact ⟨_, rfl, rfl, e1⟩
  rw [if_neg h27]
  refine ⟨fun x u => x = decide (i.op = 31 ∨ i.op = 32 ∨ i.op = 33 ∨ i.op = 34) ∧ u = w1, ?_, ?_⟩
  · rintro x u ⟨rfl, hu⟩
    obtain rfl : w1 = u := hu.symm
    refine brd (fun h31 => ?_) (fun h31 => ?_)
    · rw [if_pos h31]
      refine brd (fun h0 => ?_) (fun h0 => ⟨by rw [decide_eq_false h0]; rfl, e1⟩)
      exact ⟨_, _, _, bp.cell rfl, by rw [decide_eq_true h0, Bool.true_and]; congr 1; apply decide_eq_decide.2; omega, e1⟩
    · rw [if_neg h31]; exact ⟨rfl, e1⟩
  · refine brd (fun h => ⟨by simp [h], rfl⟩) (fun ha => brd (fun h => ⟨by simp [h], rfl⟩) (fun hb => brd (fun h => ⟨by simp [h], rfl⟩) (fun hc => ⟨by simp [ha, hb, hc], rfl⟩)))
end
end Go.Proofs.YtaifphjenebgoaaGreatDoor
set_option linter.unusedVariables false
set_option linter.unusedSimpArgs false
namespace Go.Proofs.YtaifphjenebgoaaGreatDoor
open Go Go.Sx R1 K15
theorem lookS_or (o : Int) : ∀ l : List (Int × List UInt8), lookS l o = [] ∨ ∃ q ∈ l, lookS l o = q.2
  | [] => .inl rfl
  | (k, x) :: r => by
    rw [lookS]
    split
    · exact .inr ⟨(k, x), by simp, rfl⟩
    · rcases lookS_or o r with h | ⟨q, hq, h⟩
      · exact .inl h
      · exact .inr ⟨q, by simp [hq], h⟩
def four : List UInt8 → Bool
  | [x, y, z, u] => letters.contains (x.toNat : Int) && (letters.contains (y.toNat : Int) && (letters.contains (z.toNat : Int) && letters.contains (u.toNat : Int)))
  | _ => false
theorem shapes_four : shapes.all (fun q => four q.2) = true := by decide
theorem shape_four (o : Int) : shapeP o = [] ∨ ∃ x y z u : UInt8, shapeP o = [x, y, z, u] ∧ (x.toNat : Int) ∈ letters ∧ (y.toNat : Int) ∈ letters ∧ (z.toNat : Int) ∈ letters ∧ (u.toNat : Int) ∈ letters := by
  rcases lookS_or o shapes with h | ⟨q, hq, h⟩
  · exact .inl h
  · have e := List.all_eq_true.1 shapes_four q hq
    right
    rw [show shapeP o = q.2 from h]
    generalize q.2 = l at e
    match l, e with
    | [a, b, c, d], e =>
      simp only [four, Bool.and_eq_true, List.contains_iff_mem] at e
      exact ⟨a, b, c, d, rfl, e⟩
theorem bs_get (l : List UInt8) (k : Nat) (b : UInt8) (h : l[k]? = some b) : (bs l)[k]? = some b := by
  obtain ⟨hlt, rfl⟩ := List.getElem?_eq_some_iff.1 h
  have h1 : k < (bs l).size := by simpa [bs, ByteArray.size] using hlt
  rw [getElem?_pos (bs l) k h1]
  congr 1
def nums (i : Ins) : List Int := [i.a, i.b, i.c, i.d]
def fieldsFrom (p : Prog) (t : Int) : List UInt8 → List Int → Bool
  | x :: l, n :: r => fieldP p t x.toNat n && fieldsFrom p t l r
  | _, _ => true
theorem fieldsFrom_eq {p : Prog} {t : Int} {i : Ins} {x y z u : UInt8} (h : shapeP i.op = [x, y, z, u]) : fieldsFrom p t [x, y, z, u] (nums i) = fieldsP p t i := by
  unfold fieldsP; rw [h]; simp [fieldsFrom, nums, fieldsL]
section
variable {w : World} {p : Prog} {a : PAd}
theorem okFrom_drop (p : Prog) (l : List Ins) (t : Nat) (h : t < l.length) : okFrom p t (l.drop t) = (okAt p t l[t] && okFrom p (t + 1) (l.drop (t + 1))) := by
  rw [List.drop_eq_getElem_cons h, okFrom]
set_option maxRecDepth 20000 in
theorem Check_spec (h : PIm w p a) (hT : Tab w) : CallsV Tryz.prog 12 #[pagg p a] w fun r w' => r = .int .i64 (if checkP p then 0 else 140) ∧ Ext w w' := by
  refine code_Check.calls okay ?_
  unfold code_Check.W
  intro g wa fa
  have cell : ∀ u, Ext wa u → ∀ (j : Nat) (v : Value), (pcs p a)[j]? = some v → u.cell? ((⟨g, 0, none⟩ : Addr).add j) = some v := fun u e j v hv => (fa.blk.ext e).cell (by simpa using hv)
  have er : Ext wa wa := .refl _ _
  refine ⟨_, cell wa er 0 _ rfl, _, cell wa er 1 _ rfl, _, cell wa er 2 _ rfl, _, _, _, cell wa er 3 _ rfl, _, _, _, cell wa er 4 _ rfl, _, _, _, cell wa er 5 _ rfl, _, _, _, cell wa er 6 _ rfl, _, _, _, cell wa er 7 _ rfl, _, _, _, cell wa er 8 _ rfl,
    (parts_spec (h.ext fa.ext)).mono ?_⟩
  rintro _ w1 ⟨rfl, e1⟩
  have fin : ∀ (b : Bool) (u : World) (x : Int), checkP p = b → Ext wa u → x = (if b then 0 else 140) → (Value.int .i64 x = .int .i64 (if checkP p then 0 else 140) ∧ Ext w u) := fun b u x hb e hx => ⟨by rw [hb, hx], fa.ext.trans' e⟩
  refine ⟨_, rfl, brnb (fun h0 => fin false _ _ (by simp [checkP, h0]) e1 rfl) (fun h0 => ?_)⟩
  refine ⟨_, _, _, cell w1 e1 8 _ rfl, brd (fun h1 => fin false _ _ (by simp [checkP, show ¬ 1 ≤ p.code.length by omega]) e1 rfl) (fun h1 => ?_)⟩
  have h1 : 1 ≤ p.code.length := by omega
  refine ⟨_, _, _, cell w1 e1 8 _ rfl, brd (fun h2 => fin false _ _ (by simp [checkP, show ¬ p.code.length ≤ 4000 by omega]) e1 rfl) (fun h2 => ?_)⟩
  have h2 : p.code.length ≤ 4000 := by omega
  have hlast : p.code.length - 1 < p.code.length := by omega
  obtain ⟨ad, hA, hc⟩ := insAt_imm (h.ext fa.ext) hlast
  have hw : IntKind.i64.wrap ((p.code.length : Int) - 1) = (p.code.length : Int) - 1 := wi _ (by omega) (by omega)
  refine ⟨_, _, _, cell w1 e1 8 _ rfl, _, _, _, cell w1 e1 8 _ rfl, ad, hA, ⟨by rw [hw]; omega, by rw [hw]; omega⟩, _, by rw [hw, show ((p.code.length : Int) - 1).toNat = p.code.length - 1 by omega]; exact hc w1 e1 0 _ rfl, ?_⟩
  have hl : p.code.getD (p.code.length - 1) I0 = p.code[p.code.length - 1] := by simp [List.getD, hlast]
  refine brn (fun h3 => fin false _ _ (by simp only [checkP, hl, decide_eq_false h3]; simp) e1 rfl) (fun h3 => ?_)
  clear hc hA
  have hall : checkP p = okFrom p 0 p.code := by simp only [checkP, hl, h0, decide_eq_true h1, decide_eq_true h2, decide_eq_true h3, Bool.true_and]
  have hr : 0 ≤ p.regs ∧ p.regs ≤ 250 := by
    simp only [partsP, within, Bool.and_eq_true, decide_eq_true_eq] at h0; omega
  refine ⟨_, _, _, cell w1 e1 8 _ rfl, fun x u => ∃ t : Nat, t ≤ p.code.length ∧ x = (t : Int) ∧ checkP p = okFrom p t (p.code.drop t) ∧ Ext wa u, fun x _ => ((p.code.length : Int) - x).toNat, ⟨0, by omega, rfl, by rw [hall]; rfl, e1⟩, ?_⟩
  rintro _ u ⟨t, ht, rfl, hq, e⟩
  refine brd (fun hlt => ?_) (fun hge => ?_)
  rotate_left
  · obtain rfl : t = p.code.length := by omega
    rw [List.drop_length] at hq
    exact fin true _ _ hq e rfl
  have hlt : t < p.code.length := by omega
  rw [okFrom_drop p p.code t hlt] at hq
  obtain ⟨ad, hA, hc⟩ := insAt_imm (h.ext fa.ext) hlt
  refine ⟨ad, hA, ⟨by omega, by omega⟩, _, by rw [Int.toNat_natCast]; exact hc u e 0 _ rfl, _, by rw [Int.toNat_natCast]; exact hc u e 1 _ rfl, _, by rw [Int.toNat_natCast]; exact hc u e 2 _ rfl, _, by rw [Int.toNat_natCast]; exact hc u e 3 _ rfl, _, by rw [Int.toNat_natCast]; exact hc u e 4 _ rfl, ?_⟩
  intro g1 wb fb
  refine ⟨fb.blk.stOK [_, _, _, _, _] 0 (by simp), fun wc hwc => ?_⟩
  have bi : Blk wc g1 [.int .u8 p.code[t].op, .int .i64 p.code[t].a, .int .i64 p.code[t].b, .int .i64 p.code[t].c, .int .i64 p.code[t].d] := by rw [hwc]; exact Blk.setAll (o := 0) [_, _, _, _, _] 0 fb.blk
  have ec : Ext wa wc := by rw [hwc]; exact Ext.setAll (e.trans' fb.ext) (Nat.le_trans e.size fb.ge) _ _
  clear hwc fb hc hA
  generalize hi : p.code[t] = i at *
  refine ⟨_, bi.cell rfl, (shape_spec wc i.op).mono ?_⟩
  rintro _ wd ⟨rfl, ed⟩
  have e' := ec.trans' ed
  refine ⟨_, rfl, ?_⟩
  rcases shape_four i.op with hs | ⟨x, y, z, v, hs, m1, m2, m3, m4⟩
  · rw [hs]
    refine brS (l := []) (l' := []) (fun _ => fin false _ _ ?_ e' rfl) (fun h => absurd rfl h)
    rw [hq]
    simp [okAt, fieldsP, hs, fieldsL]
  rw [hs]
  refine brS (l := [x, y, z, v]) (l' := []) (fun h => by cases h) (fun _ => ?_)
  have bi := bi.ext ed
  refine ⟨_, bi.cell rfl, _, bi.cell rfl, _, bi.cell rfl, _, bi.cell rfl, ?_⟩
  have hfe := fieldsFrom_eq (p := p) (t := (t : Int)) hs
  refine ⟨fun x' u => ∃ k : Nat, k ≤ 4 ∧ x' = (k : Int) ∧ fieldsP p t i = fieldsFrom p t ([x, y, z, v].drop k) ((nums i).drop k) ∧ Ext wa u, fun x' _ => (4 - x').toNat, ⟨0, by omega, rfl, by rw [← hfe]; rfl, e'⟩, ?_⟩
  rintro _ u1 ⟨k, hk, rfl, hf, e2⟩
  have cells : ∀ (Kp : World → Prop), Kp u1 → True := fun _ _ => trivial
  have go : ∀ (k : Nat) (l : UInt8) (n : Int) (u2 : World), [x, y, z, v][k]? = some l → (nums i)[k]? = some n → (l.toNat : Int) ∈ letters → Ext wa u2 → k < 4 → fieldsP p t i = fieldsFrom p t ([x, y, z, v].drop k) ((nums i).drop k) →
      CallsV Tryz.prog 47 #[pagg p a, .int .i64 t, .int .u8 (l.toNat : Int), .int .i64 n] u2 fun r w' => ∃ b, r = .bool b ∧ (b = false → checkP p = false) ∧ (b = true → fieldsP p t i = fieldsFrom p t ([x, y, z, v].drop (k + 1)) ((nums i).drop (k + 1))) ∧ Ext wa w' := by
    intro k l n u2 hl hn hm e3 hk hf
    refine (field_spec ((h.ext fa.ext).ext e3) t l.toNat n hm).mono ?_
    rintro _ u3 ⟨rfl, e4⟩
    obtain ⟨hlt1, rfl⟩ := List.getElem?_eq_some_iff.1 hl
    obtain ⟨hlt2, rfl⟩ := List.getElem?_eq_some_iff.1 hn
    rw [List.drop_eq_getElem_cons hlt1, List.drop_eq_getElem_cons hlt2, fieldsFrom] at hf
    refine ⟨_, rfl, fun hb => ?_, fun hb => ?_, e3.trans' e4⟩
    · rw [hq, okAt, hf, hb]; simp
    · rw [hf, hb, Bool.true_and]
  refine brd (fun hk4 => ?_) (fun hk4 => ?_)
  · refine ⟨⟨by omega, by omega⟩, ?_⟩
    have ez := e2.drew
    have cell' : ∀ u, Ext wa u → ∀ (j : Nat) (v : Value), (pcs p a)[j]? = some v → u.cell? ((⟨g, 0, none⟩ : Addr).add j) = some v := cell
    have rest : ∀ (k : Nat) (l : UInt8) (n : Int) (b0 : Bool), k < 4 → True := fun _ _ _ _ _ => trivial
    refine brd (fun hk0 => ?_) (fun hk0 => brd (fun hk1 => ?_) (fun hk1 => brd (fun hk2 => ?_) (fun hk2 => brd (fun hk3 => ?_) (fun hk3 => by omega))))
    · obtain rfl : k = 0 := by omega
      refine ⟨fun u => Ext wa u, ez, _, fun u e => cell u e 0 _ rfl, _, fun u e => cell u e 1 _ rfl, _, fun u e => cell u e 2 _ rfl, _, _, _, fun u e => cell u e 3 _ rfl, _, _, _, fun u e => cell u e 4 _ rfl, _, _, _, fun u e => cell u e 5 _ rfl, _, _, _, fun u e => cell u e 6 _ rfl, _, _, _, fun u e => cell u e 7 _ rfl, _, _, _, fun u e => cell u e 8 _ rfl,
        _, ⟨by omega, bs_get _ _ x (by rfl)⟩, (go 0 x i.a _ rfl rfl m1 ez (by omega) hf).mono ?_⟩
      rintro _ u3 ⟨b, rfl, hb1, hb2, e3⟩
      refine ⟨_, rfl, brnb (fun hb => fin false _ _ (hb1 hb) e3 rfl) (fun hb => ⟨⟨1, by omega, rfl, hb2 hb, e3⟩, by dsimp only; decide⟩)⟩
    · obtain rfl : k = 1 := by omega
      refine ⟨fun u => Ext wa u, ez, _, fun u e => cell u e 0 _ rfl, _, fun u e => cell u e 1 _ rfl, _, fun u e => cell u e 2 _ rfl, _, _, _, fun u e => cell u e 3 _ rfl, _, _, _, fun u e => cell u e 4 _ rfl, _, _, _, fun u e => cell u e 5 _ rfl, _, _, _, fun u e => cell u e 6 _ rfl, _, _, _, fun u e => cell u e 7 _ rfl, _, _, _, fun u e => cell u e 8 _ rfl,
        _, ⟨by omega, bs_get _ _ y (by rfl)⟩, (go 1 y i.b _ rfl rfl m2 ez (by omega) hf).mono ?_⟩
      rintro _ u3 ⟨b, rfl, hb1, hb2, e3⟩
      refine ⟨_, rfl, brnb (fun hb => fin false _ _ (hb1 hb) e3 rfl) (fun hb => ⟨⟨2, by omega, rfl, hb2 hb, e3⟩, by dsimp only; decide⟩)⟩
    · obtain rfl : k = 2 := by omega
      refine ⟨fun u => Ext wa u, ez, _, fun u e => cell u e 0 _ rfl, _, fun u e => cell u e 1 _ rfl, _, fun u e => cell u e 2 _ rfl, _, _, _, fun u e => cell u e 3 _ rfl, _, _, _, fun u e => cell u e 4 _ rfl, _, _, _, fun u e => cell u e 5 _ rfl, _, _, _, fun u e => cell u e 6 _ rfl, _, _, _, fun u e => cell u e 7 _ rfl, _, _, _, fun u e => cell u e 8 _ rfl,
        _, ⟨by omega, bs_get _ _ z (by rfl)⟩, (go 2 z i.c _ rfl rfl m3 ez (by omega) hf).mono ?_⟩
      rintro _ u3 ⟨b, rfl, hb1, hb2, e3⟩
      refine ⟨_, rfl, brnb (fun hb => fin false _ _ (hb1 hb) e3 rfl) (fun hb => ⟨⟨3, by omega, rfl, hb2 hb, e3⟩, by dsimp only; decide⟩)⟩
    · obtain rfl : k = 3 := by omega
      refine ⟨fun u => Ext wa u, ez, _, fun u e => cell u e 0 _ rfl, _, fun u e => cell u e 1 _ rfl, _, fun u e => cell u e 2 _ rfl, _, _, _, fun u e => cell u e 3 _ rfl, _, _, _, fun u e => cell u e 4 _ rfl, _, _, _, fun u e => cell u e 5 _ rfl, _, _, _, fun u e => cell u e 6 _ rfl, _, _, _, fun u e => cell u e 7 _ rfl, _, _, _, fun u e => cell u e 8 _ rfl,
        _, ⟨by omega, bs_get _ _ v (by rfl)⟩, (go 3 v i.d _ rfl rfl m4 ez (by omega) hf).mono ?_⟩
      rintro _ u3 ⟨b, rfl, hb1, hb2, e3⟩
      refine ⟨_, rfl, brnb (fun hb => fin false _ _ (hb1 hb) e3 rfl) (fun hb => ⟨⟨4, by omega, rfl, hb2 hb, e3⟩, by dsimp only; decide⟩)⟩
  · obtain rfl : k = 4 := by omega
    have hf1 : fieldsP p t i = true := hf
    refine ⟨_, cell u1 e2 0 _ rfl, _, cell u1 e2 1 _ rfl, _, cell u1 e2 2 _ rfl, _, _, _, cell u1 e2 3 _ rfl, _, _, _, cell u1 e2 4 _ rfl, _, _, _, cell u1 e2 5 _ rfl, _, _, _, cell u1 e2 6 _ rfl, _, _, _, cell u1 e2 7 _ rfl, _, _, _, cell u1 e2 8 _ rfl,
      (runs_spec ((h.ext fa.ext).ext e2) (hT.ext (fa.ext.trans' e2)) hlt hr (by rw [hi]; exact hf1)).mono ?_⟩
    rintro _ u3 ⟨rfl, e3⟩
    rw [hi]
    have e3 := e2.trans' e3
    refine ⟨_, rfl, brnb (fun hb => fin false _ _ (by rw [hq, okAt, hb]; simp) e3 rfl) (fun hb => ?_)⟩
    rw [wi _ (by omega) (by omega)]
    refine ⟨⟨t + 1, by omega, by omega, by rw [hq, okAt, hf1, hb]; simp, e3⟩, ?_⟩
    dsimp only; omega
end
end Go.Proofs.YtaifphjenebgoaaGreatDoor
set_option linter.unusedVariables false
set_option linter.unusedSimpArgs false
namespace Go.Proofs.YtaifphjenebgoaaGreatDoor
open Go Go.Sx R1 K15
abbrev insC (i : Ins) : List Value := [.int .u8 i.op, .int .i64 i.a, .int .i64 i.b, .int .i64 i.c, .int .i64 i.d]
set_option maxRecDepth 10000 in
theorem Great_spec {w : World} {p : Prog} {a : PAd} (h : PIm w p a) : CallsV Tryz.prog 6 #[pagg p a] w fun r w' => ∃ b, r = .bool b ∧ Ext w w' := by
  have m1 := h.l1
  have m2 := h.l2
  have m3 := h.l3
  have m4 := h.l4
  have m5 := h.l5
  simp only [maxLen] at m1 m2 m3 m4 m5
  refine cardindexlaw15_Great.calls okay ?_
  unfold cardindexlaw15_Great.W
  intro g w1 f
  have bp := f.blk
  have h := h.ext f.ext
  have e1 := f.ext
  repeat (first | refine ⟨_, Blk.cell (bp) (by rfl), ?_⟩ | refine ⟨_, _, _, Blk.cell (bp) (by rfl), ?_⟩)
  refine brd (fun _ => ⟨_, rfl, e1⟩) (fun _ => ?_)
  repeat (first | refine ⟨_, Blk.cell (bp) (by rfl), ?_⟩ | refine ⟨_, _, _, Blk.cell (bp) (by rfl), ?_⟩)
  refine brd (fun _ => ⟨_, rfl, e1⟩) (fun _ => ?_)
  repeat (first | refine ⟨_, Blk.cell (bp) (by rfl), ?_⟩ | refine ⟨_, _, _, Blk.cell (bp) (by rfl), ?_⟩)
  refine brd (fun _ => ⟨_, rfl, e1⟩) (fun _ => ?_)
  repeat (first | refine ⟨_, Blk.cell (bp) (by rfl), ?_⟩ | refine ⟨_, _, _, Blk.cell (bp) (by rfl), ?_⟩)
  refine ⟨fun x y u => ∃ k : Nat, k ≤ p.names.length ∧ y = (k : Int) ∧ u = w1, fun x y u => ((p.names.length : Int) - y).toNat, ⟨0, by omega, rfl, rfl⟩, ?_⟩
  rintro x _ u ⟨k, hk, rfl, hu⟩
  obtain rfl : w1 = u := hu.symm
  refine brd (fun hlt => ?_) (fun _ => ?_)
  · repeat (first | refine ⟨_, Blk.cell (bp) (by rfl), ?_⟩ | refine ⟨_, _, _, Blk.cell (bp) (by rfl), ?_⟩)
    obtain ⟨ad, hA, cs, hrep, hc⟩ := h.names.get1 (show k < p.names.length by omega)
    have hcs : cs = [.string p.names[k]] := hrep
    subst hcs
    rw [wi ((k : Int) + 1) (by omega) (by omega)]
    exact ⟨ad, hA, ⟨by omega, by omega⟩, _, hc 0 _ rfl, ⟨k + 1, by omega, by omega, rfl⟩, by dsimp only; omega⟩
  repeat (first | refine ⟨_, Blk.cell (bp) (by rfl), ?_⟩ | refine ⟨_, _, _, Blk.cell (bp) (by rfl), ?_⟩)
  refine ⟨fun x y u => ∃ k : Nat, k ≤ p.consts.length ∧ y = (k : Int) ∧ u = w1, fun x y u => ((p.consts.length : Int) - y).toNat, ⟨0, by omega, rfl, rfl⟩, ?_⟩
  rintro x _ u ⟨k, hk, rfl, hu⟩
  obtain rfl : w1 = u := hu.symm
  refine brd (fun hlt => ?_) (fun _ => ?_)
  · repeat (first | refine ⟨_, Blk.cell (bp) (by rfl), ?_⟩ | refine ⟨_, _, _, Blk.cell (bp) (by rfl), ?_⟩)
    obtain ⟨ad, hA, cs, hrep, hc⟩ := h.consts.get1 (show k < p.consts.length by omega)
    have hcs : cs = vc p.consts[k] := hrep
    subst hcs
    rw [wi ((k : Int) + 1) (by omega) (by omega)]
    exact ⟨ad, hA, ⟨by omega, by omega⟩, _, by rw [add_add]; exact hc 2 _ rfl, ⟨k + 1, by omega, by omega, rfl⟩, by dsimp only; omega⟩
  repeat (first | refine ⟨_, Blk.cell (bp) (by rfl), ?_⟩ | refine ⟨_, _, _, Blk.cell (bp) (by rfl), ?_⟩)
  refine ⟨fun x y u => ∃ k : Nat, k ≤ p.curs.length ∧ y = (k : Int) ∧ u = w1, fun x y u => ((p.curs.length : Int) - y).toNat, ⟨0, by omega, rfl, rfl⟩, ?_⟩
  rintro x _ u ⟨k, hk, rfl, hu⟩
  obtain rfl : w1 = u := hu.symm
  refine brd (fun hlt => ?_) (fun _ => ?_)
  · repeat (first | refine ⟨_, Blk.cell (bp) (by rfl), ?_⟩ | refine ⟨_, _, _, Blk.cell (bp) (by rfl), ?_⟩)
    obtain ⟨ad, hA, cs, hrep, hc⟩ := h.curs.get1 (show k < p.curs.length by omega)
    have hcs : cs = [.string p.curs[k].name, .bool p.curs[k].ix, .bool p.curs[k].wr] := hrep
    subst hcs
    rw [wi ((k : Int) + 1) (by omega) (by omega)]
    exact ⟨ad, hA, ⟨by omega, by omega⟩, _, by rw [add_add]; exact hc 0 _ rfl, ⟨k + 1, by omega, by omega, rfl⟩, by dsimp only; omega⟩
  repeat (first | refine ⟨_, Blk.cell (bp) (by rfl), ?_⟩ | refine ⟨_, _, _, Blk.cell (bp) (by rfl), ?_⟩)
  refine ⟨fun x y u => ∃ k : Nat, k ≤ p.sorts.length ∧ y = (k : Int) ∧ u = w1, fun x y u => ((p.sorts.length : Int) - y).toNat, ⟨0, by omega, rfl, rfl⟩, ?_⟩
  rintro x _ u ⟨k, hk, rfl, hu⟩
  obtain rfl : w1 = u := hu.symm
  refine brd (fun hlt => ?_) (fun _ => ?_)
  · repeat (first | refine ⟨_, Blk.cell (bp) (by rfl), ?_⟩ | refine ⟨_, _, _, Blk.cell (bp) (by rfl), ?_⟩)
    obtain ⟨ad, hA, cs, hrep, hc⟩ := h.sorts.get1 (show k < p.sorts.length by omega)
    obtain ⟨B, d, hcs, _⟩ := id hrep
    subst hcs
    rw [wi ((k : Int) + 1) (by omega) (by omega)]
    exact ⟨ad, hA, ⟨by omega, by omega⟩, _, _, _, by rw [add_add]; exact hc 0 _ rfl, ⟨k + 1, by omega, by omega, rfl⟩, by dsimp only; omega⟩
  repeat (first | refine ⟨_, Blk.cell (bp) (by rfl), ?_⟩ | refine ⟨_, _, _, Blk.cell (bp) (by rfl), ?_⟩)
  refine ⟨fun x y u => ∃ k : Nat, k ≤ p.tots.length ∧ y = (k : Int) ∧ u = w1, fun x y u => ((p.tots.length : Int) - y).toNat, ⟨0, by omega, rfl, rfl⟩, ?_⟩
  rintro x _ u ⟨k, hk, rfl, hu⟩
  obtain rfl : w1 = u := hu.symm
  refine brd (fun hlt => ?_) (fun _ => ⟨_, rfl, e1⟩)
  repeat (first | refine ⟨_, Blk.cell (bp) (by rfl), ?_⟩ | refine ⟨_, _, _, Blk.cell (bp) (by rfl), ?_⟩)
  obtain ⟨ad, hA, cs, hrep, hc⟩ := h.tots.get1 (show k < p.tots.length by omega)
  have hcs : cs = [.string p.tots[k].fn, .bool p.tots[k].dist] := hrep
  subst hcs
  rw [wi ((k : Int) + 1) (by omega) (by omega)]
  exact ⟨ad, hA, ⟨by omega, by omega⟩, _, by rw [add_add]; exact hc 0 _ rfl, ⟨k + 1, by omega, by omega, rfl⟩, by dsimp only; omega⟩
def oWords : ByteArray := ByteArray.mk #[99, 111, 110, 115, 116, 32, 98, 105, 110, 100, 32, 109, 111, 118, 101, 32, 116, 119, 111, 32, 111, 110, 101, 32, 105, 115, 32, 99, 97, 115, 116, 32, 99, 97, 108, 108, 32, 109, 117, 115, 116, 32, 106, 117, 109, 112, 32, 105, 102, 32, 100, 105, 102, 102, 101, 114, 32, 102, 105, 114, 115, 116, 32, 115, 101, 101, 107, 32, 110, 101, 120, 116, 32, 112, 97, 115, 116, 32, 102, 105, 110, 100, 32, 99, 111, 108, 32, 114, 111, 119, 105, 100, 32, 97, 100, 100, 32, 115, 111, 114, 116, 101, 100, 32, 97, 102, 116, 101, 114, 32, 116, 97, 107, 101, 32, 99, 108, 101, 97, 114, 32, 115, 116, 101, 112, 32, 116, 111, 116, 97, 108, 32, 114, 111, 119, 32, 110, 101, 119, 105, 100, 32, 105, 110, 115, 101, 114, 116, 32, 100, 101, 108, 101, 116, 101, 32, 100, 101, 102, 105, 110, 101, 32, 98, 101, 103, 105, 110, 32, 99, 111, 109, 109, 105, 116, 32, 98, 97, 99, 107, 32, 104, 97, 108, 116]
theorem oField : nth (Lib.fields (sb oWords)) 3 = ([116, 119, 111], true) := by decide +kernel
theorem oAscii : ∀ b ∈ sb oWords, b.toNat < 128 := by decide +kernel
theorem WordTwo_spec {w : World} (hT : Tab w) : CallsV Tryz.prog 23 #[.int .u8 4] w fun r w' => r = .string (bs [116, 119, 111]) ∧ Ext w w' := by
  refine code_Word.calls okay ?_
  unfold code_Word.W
  rw [show IntKind.i64.wrap (IntKind.i64.wrap 4 - 1) = 3 by decide]
  refine (named_spec hT oWords (by decide +kernel) oAscii 3).mono ?_
  rw [oField]
  rintro _ w1 ⟨rfl, e⟩
  exact ⟨_, _, rfl, rfl, e⟩
theorem Itoa_spec (w : World) (i : Nat) (hi : i < 10) : CallsV Tryz.prog 61 #[.int .i64 i] w fun r w' => r = .string (bs [UInt8.ofNat (48 + i)]) ∧ w' = w := by
  refine Calls.mono (Tryz.strconv_Itoa_small i (by omega) w) ?_
  rintro e w' ⟨he, hw⟩
  rw [Lib.decDigits, dif_pos hi] at he
  exact ⟨_, he, rfl, hw⟩
def preS : List (List UInt8) := [[116, 119, 111], [116, 119, 111, 32, 50], [116, 119, 111, 32, 50, 32, 48], [116, 119, 111, 32, 50, 32, 48, 32, 49], [116, 119, 111, 32, 50, 32, 48, 32, 49, 32, 54]]
abbrev iTwo : Ins := ⟨4, 2, 0, 1, 6⟩
theorem ShowTwo_spec {w : World} (hT : Tab w) : CallsV Tryz.prog 21 #[.agg #[.int .u8 4, .int .i64 2, .int .i64 0, .int .i64 1, .int .i64 6]] w fun r w' => r = .string (bs [116, 119, 111, 32, 50, 32, 48, 32, 49, 32, 54]) ∧ Ext w w' := by
  refine code_Show.calls okay ?_
  unfold code_Show.W
  intro g w1 f
  have b : Blk w1 g (insC iTwo) := f.blk
  repeat (first | refine ⟨_, Blk.cell (b) (by rfl), ?_⟩ | refine ⟨_, _, _, Blk.cell (b) (by rfl), ?_⟩)
  refine (WordTwo_spec (hT.ext f.ext)).mono ?_
  rintro _ w2 ⟨rfl, k2⟩
  have e2 := f.ext.trans' k2
  have b := b.ext k2
  clear f
  refine ⟨_, rfl, fun x u => x = bs [116, 119, 111] ∧ u = w2, ?_, brS (fun h => absurd h (by decide)) (fun _ => ⟨rfl, rfl⟩)⟩
  rintro x u ⟨rfl, hu⟩
  subst hu
  repeat (first | refine ⟨_, Blk.cell (b) (by rfl), ?_⟩ | refine ⟨_, _, _, Blk.cell (b) (by rfl), ?_⟩)
  refine ⟨fun x y v => ∃ k : Nat, k ≤ 4 ∧ y = (k : Int) ∧ x = bs (preS.getD k []) ∧ v = u, fun x y v => (4 - y).toNat, ⟨0, by omega, rfl, rfl, rfl⟩, ?_⟩
  rintro x _ v ⟨k, hk, rfl, rfl, hv⟩
  subst hv
  refine brd (fun hlt => ⟨⟨by omega, by omega⟩, ?_⟩) (fun hge => ?_)
  · refine brd (fun h => ?_) (fun n0 => brd (fun h => ?_) (fun n1 => brd (fun h => ?_) (fun n2 => brd (fun h => ?_) (fun n3 => by omega))))
    · obtain rfl : k = 0 := by omega
      refine (Itoa_spec v 2 (by omega)).mono ?_
      rintro _ v1 ⟨rfl, hv⟩
      exact ⟨_, rfl, by decide, by decide, ⟨1, by omega, rfl, rfl, hv⟩, by dsimp only; decide⟩
    · obtain rfl : k = 1 := by omega
      refine (Itoa_spec v 0 (by omega)).mono ?_
      rintro _ v1 ⟨rfl, hv⟩
      exact ⟨_, rfl, by decide, by decide, ⟨2, by omega, rfl, rfl, hv⟩, by dsimp only; decide⟩
    · obtain rfl : k = 2 := by omega
      refine (Itoa_spec v 1 (by omega)).mono ?_
      rintro _ v1 ⟨rfl, hv⟩
      exact ⟨_, rfl, by decide, by decide, ⟨3, by omega, rfl, rfl, hv⟩, by dsimp only; decide⟩
    · obtain rfl : k = 3 := by omega
      refine (Itoa_spec v 6 (by omega)).mono ?_
      rintro _ v1 ⟨rfl, hv⟩
      exact ⟨_, rfl, by decide, by decide, ⟨4, by omega, rfl, rfl, hv⟩, by dsimp only; decide⟩
  · obtain rfl : k = 4 := by omega
    exact ⟨rfl, e2⟩
end Go.Proofs.YtaifphjenebgoaaGreatDoor
set_option linter.unusedVariables false
set_option linter.unusedSimpArgs false
namespace Go.Proofs.YtaifphjenebgoaaGreatDoor
open Go Go.Sx R1 K15
abbrev hHalt : Ins := ⟨35, 0, 0, 0, 0⟩
abbrev hJump (a : Int) : Ins := ⟨10, a, 0, 0, 0⟩
abbrev hP (l : List Ins) : Prog := ⟨1, 1, 0, [], [], [], [], [], l⟩
abbrev hA (A : Option Addr) (c : Nat) : PAd := ⟨none, 0, none, 0, none, 0, none, 0, none, 0, A, c⟩
theorem hPim {w : World} {A : Option Addr} {c : Nat} {l : List Ins} (h : Imm KIns NoB w A l) (hl : l.length ≤ 2) (hc : l.length ≤ c) : PIm w (hP l) (hA A c) :=
  ⟨Imm.nil _ _ _ _, Imm.nil _ _ _ _, Imm.nil _ _ _ _, Imm.nil _ _ _ _, Imm.nil _ _ _ _, h, Nat.zero_le _, Nat.zero_le _, Nat.zero_le _, Nat.zero_le _, Nat.zero_le _, Nat.le_trans hl (by simp [maxLen]), hc⟩
theorem cellSet {u v : World} {g o : Nat} {x : Value} {cs : List Value} (hb : Blk u g cs) (hv : v = setAll ((⟨g, 0, none⟩ : Addr).add o) 0 [x] u) : Blk v g (cs.set o x) ∧ Fr (fun k => k = g) u v := by
  rw [add_new] at hv
  have h1 : Blk v g (cs.set (0 + o) x) := by rw [hv]; exact Blk.setAll (o := 0 + o) [x] 0 hb
  rw [Nat.zero_add] at h1
  exact ⟨h1, by rw [hv]; exact Fr.setAll _ _ _⟩
theorem cellOK {u : World} {g o : Nat} {x : Value} {cs : List Value} (hb : Blk u g cs) (ho : o < cs.length) : stOK ((⟨g, 0, none⟩ : Addr).add o) 0 [x] u := by
  rw [add_new]; exact hb.stOK (o := 0 + o) [x] 0 (by simp; omega)
theorem two_imm {w w' : World} {g : Nat} {a : Int} {Ω : Nat → Prop} (f : Fresh w g w' [.int .u8 10, .int .i64 a, .int .i64 0, .int .i64 0, .int .i64 0, .int .u8 35, .int .i64 0, .int .i64 0, .int .i64 0, .int .i64 0] 46) (h : ¬ Ω g) : Imm KIns Ω w' (some ⟨g, 0, none⟩) [hJump a, hHalt] :=
  f.imm h KIns_pos rfl (by simp [maxLen]) (by
    intro i a h
    rcases i with _ | _ | i
    · simp at h; subst h; rfl
    · simp at h; subst h; rfl
    · simp at h)
theorem chk0 : checkP (hP [hHalt]) = true := by decide +kernel
theorem chk1 : checkP (hP [hJump 0, hHalt]) = false := by decide +kernel
theorem chk2 : checkP (hP [hJump 1, hHalt]) = true := by decide +kernel
set_option maxRecDepth 20000 in
set_option maxHeartbeats 4000000 in
theorem awake_spec {w : World} (hT : Tab w) : CallsV Tryz.prog 7 #[] w fun r w' => r = .bool true ∧ Ext w w' := by
  refine cardindexlaw15_awake.calls okay ?_
  unfold cardindexlaw15_awake.W
  intro g0 w1 f0 g1 w2 f1
  refine ⟨f1.blk.stOK (pcs (hP [hHalt]) (hA (some ⟨g0, 0, none⟩) 1)) 0 (by simp), fun w3 hw => ?_⟩
  obtain ⟨b1, q⟩ := set0 f1.blk hw rfl
  have z0 := f0.ge
  have z1 := f1.ge
  have z2 := f0.lt
  have e3 : Ext w w3 := (f0.ext.trans' f1.ext).trans q (fun _ _ h => h) (fun k hk e => by have := f0.ext.size; omega)
  have i0 : Imm KIns (fun k => k = g1) w1 (some ⟨g0, 0, none⟩) [hHalt] := f0.imm (fun h => by omega) KIns_pos rfl (by simp [maxLen]) (by
    intro i a h
    rcases i with _ | i
    · simp at h; subst h; rfl
    · simp at h)
  have i0 : Imm KIns NoB w3 (some ⟨g0, 0, none⟩) [hHalt] := (i0.ext KIns_pos f1.ext).keep KIns_pos (q.step (fun _ _ h => h) (fun _ _ h => h.elim))
  clear hw f0 f1 q z0 z1 z2
  refine ⟨fun u => Ext w3 u, Fr.drew NoB w3, ?_⟩
  repeat (first | refine ⟨_, fun u e => Blk.cell (Blk.ext (b1) e) (by rfl), ?_⟩ | refine ⟨_, _, _, fun u e => Blk.cell (Blk.ext (b1) e) (by rfl), ?_⟩)
  refine ⟨?_, ?_⟩
  case' refine_1 =>
    intro gq w4 f4
    have x4 : Ext w3 w4 := Ext.drew0 f4.ext
    refine ⟨x4, ?_⟩
    intro gr w5 f5
    have x5 := x4.trans' f5.ext
    have hq : w3.heap.size ≤ gq := f4.ge
    have hr : w3.heap.size ≤ gr := Nat.le_trans x4.size f5.ge
    have hn : gq ≠ gr := by have := f4.lt; have := f5.ge; omega
    refine ⟨x5, (f4.blk.ext f5.ext).stOK (pcs (hP [hHalt]) (hA (some ⟨g0, 0, none⟩) 1)) 0 (by simp), fun w6 hw6 => ?_⟩
    obtain ⟨bq, q6⟩ := set0 (f4.blk.ext f5.ext) hw6 rfl
    have br := f5.blk.keep q6 (fun e => hn e.symm)
    have x6 : Ext w3 w6 := x5.trans q6 (fun _ _ h => h) (fun k hk e => by omega)
    refine ⟨x6, br.stOK (pcs (hP [hHalt]) (hA (some ⟨g0, 0, none⟩) 1)) 0 (by simp), fun w7 hw7 => ?_⟩
    obtain ⟨br, q7⟩ := set0 br hw7 rfl
    have bq := bq.keep q7 hn
    have x7 : Ext w3 w7 := x6.trans q7 (fun _ _ h => h) (fun k hk e => by omega)
    clear hw7 hw6 q7 q6 x6 x5 f5 x4 f4
  case' refine_2 =>
    intro gr w4 f4
    have x4 : Ext w3 w4 := Ext.drew0 f4.ext
    refine ⟨x4, ?_⟩
    intro gq w5 f5
    have x5 := x4.trans' f5.ext
    have hr : w3.heap.size ≤ gr := f4.ge
    have hq : w3.heap.size ≤ gq := Nat.le_trans x4.size f5.ge
    have hn : gq ≠ gr := by have := f4.lt; have := f5.ge; omega
    refine ⟨x5, f5.blk.stOK (pcs (hP [hHalt]) (hA (some ⟨g0, 0, none⟩) 1)) 0 (by simp), fun w6 hw6 => ?_⟩
    obtain ⟨bq, q6⟩ := set0 f5.blk hw6 rfl
    have br := (f4.blk.ext f5.ext).keep q6 (fun e => hn e.symm)
    have x6 : Ext w3 w6 := x5.trans q6 (fun _ _ h => h) (fun k hk e => by omega)
    refine ⟨x6, br.stOK (pcs (hP [hHalt]) (hA (some ⟨g0, 0, none⟩) 1)) 0 (by simp), fun w7 hw7 => ?_⟩
    obtain ⟨br, q7⟩ := set0 br hw7 rfl
    have bq := bq.keep q7 hn
    have x7 : Ext w3 w7 := x6.trans q7 (fun _ _ h => h) (fun k hk e => by omega)
    clear hw7 hw6 q7 q6 x6 x5 f5 x4 f4
  all_goals
    intro g8 w8 f8
    have y8 := f8.ge
    have l8 := f8.lt
    have lq := bq.lt
    have lr := br.lt
    have sz7 := x7.size
    have i8 : Imm KIns (fun k => k = gq ∨ k = gr) w8 (some ⟨g8, 0, none⟩) [hJump 0, hHalt] := two_imm f8 (fun h => by omega)
    refine ⟨cellOK (bq.ext f8.ext) (by simp), fun w9 hw9 => ?_⟩
    obtain ⟨bq9, q9⟩ := cellSet (bq.ext f8.ext) hw9
    have i9 : Imm KIns (fun k => k = gr) w9 (some ⟨g8, 0, none⟩) [hJump 0, hHalt] := i8.keep KIns_pos (q9.step (fun _ _ h => .inl h) (fun _ _ h => .inr h))
    have br9 := (br.ext f8.ext).keep q9 (fun e => hn e.symm)
    have lr9 := br9.lt
    intro g10 w10 f10
    have y10 := f10.ge
    have i10 : Imm KIns (fun k => k = gr) w10 (some ⟨g10, 0, none⟩) [hJump 1, hHalt] := two_imm f10 (fun h => by omega)
    refine ⟨cellOK (br9.ext f10.ext) (by simp), fun w11 hw11 => ?_⟩
    obtain ⟨br11, q11⟩ := cellSet (br9.ext f10.ext) hw11
    have bq11 := (bq9.ext f10.ext).keep q11 hn
    have x9 : Ext w3 w9 := (x7.trans' f8.ext).trans q9 (fun _ _ h => h) (fun k hk e => by omega)
    have x11 : Ext w3 w11 := (x9.trans' f10.ext).trans q11 (fun _ _ h => h) (fun k hk e => by omega)
    have j1 : Imm KIns NoB w11 (some ⟨g8, 0, none⟩) [hJump 0, hHalt] := (i9.ext KIns_pos f10.ext).keep KIns_pos (q11.step (fun _ _ h => h) (fun _ _ h => h.elim))
    have j2 : Imm KIns NoB w11 (some ⟨g10, 0, none⟩) [hJump 1, hHalt] := i10.keep KIns_pos (q11.step (fun _ _ h => h) (fun _ _ h => h.elim))
    have p0 : PIm w11 (hP [hHalt]) (hA (some ⟨g0, 0, none⟩) 1) := hPim (i0.ext KIns_pos x11) (by simp) (by simp)
    have p1 : PIm w11 (hP [hJump 0, hHalt]) (hA (some ⟨g8, 0, none⟩) 2) := hPim j1 (by simp) (by simp)
    have p2 : PIm w11 (hP [hJump 1, hHalt]) (hA (some ⟨g10, 0, none⟩) 2) := hPim j2 (by simp) (by simp)
    have e11 := e3.trans' x11
    have b11 := b1.ext x11
    clear x9 x11 q9 q11 f8 f10 i8 i9 i10 hw9 hw11 br9 bq9 j1 j2
    refine (ShowTwo_spec (hT.ext e11)).mono ?_
    rintro _ w12 ⟨rfl, k12⟩
    refine ⟨_, rfl, brS (fun _ => ?_) (fun h => absurd rfl h)⟩
    repeat (first | refine ⟨_, Blk.cell (b11.ext k12) (by rfl), ?_⟩ | refine ⟨_, _, _, Blk.cell (b11.ext k12) (by rfl), ?_⟩)
    refine (Check_spec (p0.ext k12) (hT.ext (e11.trans' k12))).mono ?_
    rintro _ w13 ⟨rfl, k13⟩
    rw [chk0]
    refine ⟨_, rfl, brd (fun _ => ?_) (fun h => absurd rfl h)⟩
    have k := k12.trans' k13
    repeat (first | refine ⟨_, Blk.cell (bq11.ext k) (by rfl), ?_⟩ | refine ⟨_, _, _, Blk.cell (bq11.ext k) (by rfl), ?_⟩)
    refine (Check_spec (p1.ext k) (hT.ext (e11.trans' k))).mono ?_
    rintro _ w14 ⟨rfl, k14⟩
    rw [chk1]
    refine ⟨_, rfl, brd (fun _ => ?_) (fun h => absurd rfl h)⟩
    have k' := k.trans' k14
    repeat (first | refine ⟨_, Blk.cell (br11.ext k') (by rfl), ?_⟩ | refine ⟨_, _, _, Blk.cell (br11.ext k') (by rfl), ?_⟩)
    refine (Check_spec (p2.ext k') (hT.ext (e11.trans' k'))).mono ?_
    rintro _ w15 ⟨rfl, k15⟩
    rw [chk2]
    exact ⟨_, rfl, rfl, e11.trans' (k'.trans' k15)⟩
end Go.Proofs.YtaifphjenebgoaaGreatDoor
set_option linter.unusedVariables false
set_option linter.unusedSimpArgs false
namespace Go.Proofs.YtaifphjenebgoaaGreatDoor
open Go Go.Sx R1 K15
structure Rdr (b : List UInt8) (A : Option Addr) (c : Nat) (w0 w : World) (g : Nat) (s : Option (List UInt8)) : Prop where
  imm : Imm KB NoB w0 A b
  lc : b.length ≤ c
  ln : b.length ≤ 140737488355328
  ge : w0.heap.size ≤ g
  ext : Ext w0 w
  st : ∃ a : Nat, a ≤ b.length ∧ Blk w g [.slice A b.length c, .int .i64 (a : Int), .bool s.isNone] ∧ ∀ r, s = some r → r = b.drop a
abbrev At (g : Nat) : Nat → Prop := fun k => k = g
section
variable {b : List UInt8} {A : Option Addr} {c : Nat} {w0 w w' : World} {g : Nat} {s : Option (List UInt8)}
theorem Rdr.fr (h : Rdr b A c w0 w g s) {S : Nat → Prop} (f : Fr S w w') (hg : ¬ S g) (h0 : ∀ k, k < w0.heap.size → ¬ S k) : Rdr b A c w0 w' g s := by
  obtain ⟨a, ha, bk, hs⟩ := h.st
  exact ⟨h.imm, h.lc, h.ln, h.ge, h.ext.trans f (fun _ _ h => h) (fun k hk hS => h0 k hk hS), a, ha, bk.keep f hg, hs⟩
theorem Rdr.lt (h : Rdr b A c w0 w g s) : g < w.heap.size := by obtain ⟨a, ha, bk, hs⟩ := h.st; exact bk.lt
theorem Rdr.ex (h : Rdr b A c w0 w g s) (e : Ext w w') : Rdr b A c w0 w' g s := h.fr e (fun h => h) (fun _ _ h => h)
theorem Rdr.now (h : Rdr b A c w0 w g s) : Imm KB NoB w A b := h.imm.ext KB_pos h.ext
theorem Rdr.fail (h : Rdr b A c w0 w g s) (e : Ext w w') {u : World} (hu : u = setAll ((⟨g, 0, none⟩ : Addr).add 2) 0 [.bool true] w') : Rdr b A c w0 u g none ∧ Fr (At g) w u := by
  obtain ⟨a, ha, bk, hs⟩ := (h.ex e).st
  obtain ⟨b1, q⟩ := cellSet bk hu
  exact ⟨⟨h.imm, h.lc, h.ln, h.ge, (h.ext.trans' e).trans q (fun _ _ h => h) (fun k hk hS => by have := h.ge; have hS : k = g := hS; omega), a, ha, b1, fun r hr => by cases hr⟩, e.trans q (fun _ _ h => h.elim) (fun _ _ h => h)⟩
theorem Rdr.failOK (h : Rdr b A c w0 w g s) (e : Ext w w') (v : Value) : stOK ((⟨g, 0, none⟩ : Addr).add 2) 0 [v] w' := by
  obtain ⟨a, ha, bk, hs⟩ := (h.ex e).st
  exact cellOK bk (by simp)
theorem Rdr.go {p : Nat} (h : Rdr b A c w0 w g (some (b.drop p))) (hp : p ≤ b.length) {q : Nat} (hq : q ≤ b.length) (e : Ext w w') {u : World} (hu : u = setAll ((⟨g, 0, none⟩ : Addr).add 1) 0 [.int .i64 (q : Int)] w') :
    Rdr b A c w0 u g (some (b.drop q)) ∧ Fr (At g) w u := by
  obtain ⟨a, ha, bk, hs⟩ := (h.ex e).st
  obtain ⟨b1, f⟩ := cellSet bk hu
  exact ⟨⟨h.imm, h.lc, h.ln, h.ge, (h.ext.trans' e).trans f (fun _ _ h => h) (fun k hk hS => by have := h.ge; have hS : k = g := hS; omega), q, hq, b1, fun r hr => by cases hr; rfl⟩, e.trans f (fun _ _ h => h.elim) (fun _ _ h => h)⟩
theorem Rdr.goOK (h : Rdr b A c w0 w g s) (e : Ext w w') (v : Value) : stOK ((⟨g, 0, none⟩ : Addr).add 1) 0 [v] w' := by
  obtain ⟨a, ha, bk, hs⟩ := (h.ex e).st
  exact cellOK bk (by simp)
theorem getU_dec {b : List UInt8} {a : Nat} (ha : a ≤ b.length) : B1.getU b (a : Int) = (B1.dec 0 (b.drop a)).at (a : Int) := by
  unfold B1.getU
  rw [if_neg (by omega), Int.toNat_natCast]
theorem rnum_spec (h : Rdr b A c w0 w g s) (most : Nat) (hm : most < 9223372036854775808) :
    CallsV Tryz.prog 30 #[.pointer (some ⟨g, 0, none⟩), .int .i64 most] w fun v w' => ∃ x : Int, v = .int .i64 x ∧ Rdr b A c w0 w' g (adv (numO most) s) ∧ Got (numO most) s x ∧ (0 ≤ x ∧ x ≤ most) ∧ Fr (At g) w w' := by
  refine code_reader_number.calls okay ?_
  unfold code_reader_number.W
  obtain ⟨a, ha, bk, hs⟩ := h.st
  refine ⟨_, rfl, _, bk.cell rfl, br (fun hb => ?_) (fun hb => ?_)⟩
  · obtain rfl : s = none := by cases s with | none => rfl | some x => cases hb
    exact ⟨0, rfl, h, Got.bad rfl, ⟨by omega, by omega⟩, .refl _ _⟩
  obtain ⟨r, rfl⟩ : ∃ r, s = some r := by cases s with | none => cases hb | some x => exact ⟨x, rfl⟩
  obtain rfl := hs r rfl
  refine ⟨_, rfl, fun u => Ext w u, Fr.drew NoB w, _, _, _, fun u e => (bk.ext e).cell rfl, _, rfl, _, fun u e => (bk.ext e).cell rfl, ?_⟩
  have hd : Ext w w.drew := Fr.drew NoB w
  refine (GetUint_spec (h.now.ext KB_pos hd) h.ln (a : Int)).mono ?_
  rintro _ w1 ⟨rfl, e1⟩
  have e1 : Ext w w1 := hd.trans' e1
  refine ⟨_, _, _, rfl, ?_⟩
  rw [getU_dec ha]
  have bad : ∀ u, numO most (b.drop a) = none → u = setAll ((⟨g, 0, none⟩ : Addr).add 2) 0 [.bool true] w1 → ∃ x : Int, Value.int .i64 0 = .int .i64 x ∧ Rdr b A c w0 u g (adv (numO most) (some (b.drop a))) ∧ Got (numO most) (some (b.drop a)) x ∧ (0 ≤ x ∧ x ≤ most) ∧ Fr (At g) w u := fun u hn hu => by
    obtain ⟨q1, q2⟩ := h.fail e1 hu
    exact ⟨0, rfl, by rw [adv_bad hn]; exact q1, Got.bad (adv_bad hn), ⟨by omega, by omega⟩, q2⟩
  have ok1 := h.failOK e1 (.bool true)
  cases hc : B1.dec 0 (b.drop a) with
  | short => exact brn (fun _ => ⟨_, rfl, ok1, fun u hu => bad u (by unfold numO; rw [hc]) hu⟩) (fun h0 => by simp [B1.Dec.at] at h0)
  | bad => exact brn (fun _ => ⟨_, rfl, ok1, fun u hu => bad u (by unfold numO; rw [hc]) hu⟩) (fun h0 => by simp [B1.Dec.at] at h0)
  | ok n k =>
    refine brn (fun h0 => by simp [B1.Dec.at] at h0) (fun _ => ?_)
    simp only [B1.Dec.at]
    rw [wu (most : Int) (by omega) (by omega)]
    refine brd (fun hgt => ⟨_, rfl, ok1, fun u hu => bad u (by unfold numO; rw [hc]; simp only; rw [if_neg (by omega)]) hu⟩) (fun hle => ?_)
    obtain ⟨_, hk, _⟩ := B1.dec_ok _ 0 n k (by omega) hc
    rw [List.length_drop] at hk
    have hn : numO most (b.drop a) = some ((n : Int), b.drop (a + k)) := by unfold numO; rw [hc]; simp only; rw [if_pos (by omega), List.drop_drop]
    rw [show (a : Int) + (k : Int) = ((a + k : Nat) : Int) by omega]
    refine ⟨_, rfl, h.goOK e1 _, fun u hu => ?_⟩
    obtain ⟨q1, q2⟩ := h.go (b := b) (p := a) ha (q := a + k) (by omega) e1 hu
    rw [wi (n : Int) (by omega) (by omega)]
    exact ⟨n, rfl, by rw [adv_ok hn]; exact q1, Got.ok hn, ⟨by omega, by omega⟩, q2⟩
theorem rflag_spec (h : Rdr b A c w0 w g s) :
    CallsV Tryz.prog 72 #[.pointer (some ⟨g, 0, none⟩)] w fun v w' => ∃ x : Bool, v = .bool x ∧ Rdr b A c w0 w' g (adv flagO s) ∧ Got flagO s x ∧ Fr (At g) w w' := by
  refine code_reader_flag.calls okay ?_
  unfold code_reader_flag.W
  refine (rnum_spec h 1 (by omega)).mono ?_
  rintro _ w1 ⟨x, rfl, h1, q1, _, f1⟩
  exact ⟨_, rfl, _, rfl, by unfold flagO; rw [adv_map]; exact h1, q1.map (fun n => decide (n = 1)), f1⟩
abbrev Old (w : World) : Nat → Prop := fun k => k < w.heap.size
theorem rblob_spec (h : Rdr b A c w0 w g s) (most : Nat) (hm : most < 9223372036854775808) :
    CallsV Tryz.prog 33 #[.pointer (some ⟨g, 0, none⟩), .int .i64 most] w fun v w' => ∃ (B : Option Addr) (d : Nat) (l : List UInt8), v = .slice B l.length d ∧ OwnB w' B d l ∧ New w B ∧ Rdr b A c w0 w' g (adv (blobO most) s) ∧ Got (blobO most) s l ∧
      l.length ≤ most ∧ Fr (At g) w w' := by
  refine code_reader_blob.calls okay ?_
  unfold code_reader_blob.W
  obtain ⟨a, ha, bk, hs⟩ := h.st
  refine ⟨_, rfl, _, bk.cell rfl, br (fun hb => ?_) (fun hb => ?_)⟩
  · obtain rfl : s = none := by cases s with | none => rfl | some x => cases hb
    exact ⟨none, 0, [], rfl, OwnB.nil _, New.none _, h, Got.bad rfl, Nat.zero_le _, .refl _ _⟩
  obtain ⟨r, rfl⟩ : ∃ r, s = some r := by cases s with | none => cases hb | some x => exact ⟨x, rfl⟩
  obtain rfl := hs r rfl
  refine ⟨_, rfl, fun u => Ext w u, Fr.drew NoB w, _, _, _, fun u e => (bk.ext e).cell rfl, _, rfl, _, fun u e => (bk.ext e).cell rfl, ?_⟩
  have hd : Ext w w.drew := Fr.drew NoB w
  refine (GetBlob_spec (h.now.ext KB_pos hd) h.ln h.lc (a : Int) most (by omega)).mono ?_
  rintro _ w1 ⟨B, d, rfl, ho, e1, nB⟩
  have e1 : Ext w w1 := hd.trans' e1
  refine ⟨_, _, _, _, _, rfl, ?_⟩
  have hB : ∀ (n q : Nat) (e : Int), B1.getU b (a : Int) = (n, (q : Int), e) → getB b (a : Int) most = if e ≠ 0 then ([], 0, e) else if (most : Int) < 0 ∨ (most : Int) < (n : Int) then ([], 0, 3) else if b.length - q < n then ([], 0, 11)
    else ((b.drop q).take n, (q : Int) + n, 0) := fun n q e he => by unfold getB; rw [he]; rfl
  rw [getU_dec ha] at hB
  have bad : ∀ u, blobO most (b.drop a) = none → u = setAll ((⟨g, 0, none⟩ : Addr).add 2) 0 [.bool true] w1 → ∃ (B : Option Addr) (d : Nat) (l : List UInt8), Value.slice none 0 0 = .slice B l.length d ∧ OwnB u B d l ∧ New w B ∧ Rdr b A c w0 u g (adv (blobO most) (some (b.drop a))) ∧ Got (blobO most) (some (b.drop a)) l ∧
      l.length ≤ most ∧ Fr (At g) w u := fun u hn hu => by
    obtain ⟨q1, q2⟩ := h.fail e1 hu
    exact ⟨none, 0, [], rfl, OwnB.nil _, New.none _, by rw [adv_bad hn]; exact q1, Got.bad (adv_bad hn), Nat.zero_le _, q2⟩
  have ok1 := h.failOK e1 (.bool true)
  cases hc : B1.dec 0 (b.drop a) with
  | short => exact brn (fun _ => ⟨_, rfl, ok1, fun u hu => bad u (by unfold blobO numO; rw [hc]) hu⟩) (fun h0 => by rw [hB 0 0 11 (by rw [hc]; rfl), if_pos (by decide)] at h0; simp at h0)
  | bad => exact brn (fun _ => ⟨_, rfl, ok1, fun u hu => bad u (by unfold blobO numO; rw [hc]) hu⟩) (fun h0 => by rw [hB 0 0 10 (by rw [hc]; rfl), if_pos (by decide)] at h0; simp at h0)
  | ok n k =>
    have hB := hB n (a + k) 0 (by rw [hc]; show (n, (a : Int) + (k : Int), (0 : Int)) = _; rw [show (a : Int) + (k : Int) = ((a + k : Nat) : Int) by omega])
    rw [if_neg (by decide)] at hB
    obtain ⟨_, hk, _⟩ := B1.dec_ok _ 0 n k (by omega) hc
    rw [List.length_drop] at hk
    by_cases h1 : (most : Int) < 0 ∨ (most : Int) < (n : Int)
    · rw [if_pos h1] at hB
      rw [hB]
      exact brn (fun _ => ⟨_, rfl, ok1, fun u hu => bad u (by unfold blobO numO; rw [hc]; simp only; rw [if_neg (by omega)]) hu⟩) (fun h0 => by simp at h0)
    rw [if_neg h1] at hB
    have hn : numO most (b.drop a) = some ((n : Int), b.drop (a + k)) := by unfold numO; rw [hc]; simp only; rw [if_pos (by omega), List.drop_drop]
    by_cases h2 : b.length - (a + k) < n
    · rw [if_pos h2] at hB
      rw [hB]
      exact brn (fun _ => ⟨_, rfl, ok1, fun u hu => bad u (by unfold blobO; rw [hn]; simp only; rw [if_pos (by rw [List.length_drop]; omega)]) hu⟩) (fun h0 => by simp at h0)
    rw [if_neg h2] at hB
    rw [hB] at ho ⊢
    have hbl : blobO most (b.drop a) = some ((b.drop (a + k)).take n, b.drop (a + k + n)) := by
      unfold blobO; rw [hn]; simp only; rw [if_neg (by rw [List.length_drop]; omega), Int.toNat_natCast, List.drop_drop]
    refine brn (fun h0 => absurd rfl h0) (fun _ => ?_)
    rw [show ((a + k : Nat) : Int) + (n : Int) = ((a + k + n : Nat) : Int) by omega]
    refine ⟨_, rfl, h.goOK e1 _, fun u hu => ?_⟩
    obtain ⟨q1, q2⟩ := h.go (b := b) (p := a) ha (q := a + k + n) (by omega) e1 hu
    obtain ⟨_, fu⟩ := cellSet (h.ex e1).st.choose_spec.2.1 hu
    exact ⟨B, d, _, rfl, ho.keep fu (fun j hj hg => by have h3 : w.heap.size ≤ j := nB j hj; have h4 := h.lt; have hg : j = g := hg; omega), nB, by rw [adv_ok hbl]; exact q1, Got.ok hbl, (by rw [List.length_take]; omega), q2⟩
end
end Go.Proofs.YtaifphjenebgoaaGreatDoor
set_option linter.unusedVariables false
set_option maxRecDepth 100000
namespace Go.Proofs.YtaifphjenebgoaaGreatDoor
open Go Go.Sx
noncomputable def code_writer_put.W : Option Addr → Option Addr → Nat → Nat → World → (Value → World → Prop) → Prop := fun (wx l_A : Option Addr) (l_n l_c : Nat) (w : World) (K : Value → World → Prop)
 => ∃ (I : Int → World → Prop) (μ : Int → World → Nat), I (0 : Int) w ∧ ∀ (x : Int) (w : World), I x w → bif decide (x < (↑l_n : Int)) then ∃ (ad : Addr), l_A = some ad ∧ ((0 : Int) ≤ x
 ∧ x < (↑l_n : Int)) ∧ ∃ (x_1 : Int), World.cell? w (Addr.add ad (Int.toNat x * 1)) = some (Value.int IntKind.i64 x_1) ∧ ∃ (a : Addr), wx = some a ∧ ∃ (x_2 : Option Addr) (x_3 x_4 : Nat),
 World.cell? w (Addr.add a 0) = some (Value.slice x_2 x_3 x_4) ∧ CallsV Tryz.prog 63 #[Value.slice x_2 x_3 x_4, Value.int IntKind.u64 (IntKind.wrap IntKind.u64 x_1)] w fun (v : Value) (w' :
 World) => ∃ (x_5 : Option Addr) (x_6 x_7 : Nat), v = Value.slice x_5 x_6 x_7 ∧ ∃ (a : Addr), wx = some a ∧ stOK (Addr.add a 0) 0 [Value.slice x_5 x_6 x_7] w' ∧ ∀ (w'_1 : World), w'_1 = setAll
 (Addr.add a 0) 0 [Value.slice x_5 x_6 x_7] w' → I (IntKind.wrap IntKind.i64 (x + (1 : Int))) w'_1 ∧ μ (IntKind.wrap IntKind.i64 (x + (1 : Int))) w'_1 < μ x w else K (Value.tuple #[]) w
theorem code_writer_put.calls (ok : Okay Tryz.prog) {wx : Option Addr} {l_A : Option Addr} {l_n : Nat} {l_c : Nat} {w : World} {K : Value → World → Prop} (h : code_writer_put.W wx l_A l_n l_c w K) : CallsV Tryz.prog 25 #[.pointer wx, .slice l_A l_n l_c] w K :=
  fnW_calls ok Tryz.func25 (an := (.named (.seq .auto (.block (.loop [(8, .one (.int .i64))] .auto))))) (args := [.pointer wx, .slice l_A l_n l_c]) (Eq.mp (by kernel_rfl) h)
noncomputable def code_writer_flag.W : Option Addr → Option Addr → Nat → Nat → World → (Value → World → Prop) → Prop := fun (wx l_A : Option Addr) (l_n l_c : Nat) (w : World) (K : Value → World → Prop)
 => ∃ (I : Int → World → Prop) (μ : Int → World → Nat), I (0 : Int) w ∧ ∀ (x : Int) (w : World), I x w → bif decide (x < (↑l_n : Int)) then ∃ (ad : Addr), l_A = some ad ∧ ((0 : Int) ≤ x
 ∧ x < (↑l_n : Int)) ∧ ∃ (x_1 : Bool), World.cell? w (Addr.add ad (Int.toNat x * 1)) = some (Value.bool x_1) ∧ bif x_1 then ∀ (g : Nat) (w' : World), Fresh w g w' [Value.int IntKind.i64 (1 :
 Int)] 3 → CallsV Tryz.prog 25 #[Value.pointer wx, Value.slice (some (Addr.mk g 0 none)) 1 1] w' fun (v : Value) (w' : World) => v = Value.tuple #[] ∧ I (IntKind.wrap IntKind.i64 (x + (1 :
 Int))) w' ∧ μ (IntKind.wrap IntKind.i64 (x + (1 : Int))) w' < μ x w else ∀ (g : Nat) (w' : World), Fresh w g w' [Value.int IntKind.i64 (0 : Int)] 3 → CallsV Tryz.prog 25 #[Value.pointer wx, Value.slice
 (some (Addr.mk g 0 none)) 1 1] w' fun (v : Value) (w' : World) => v = Value.tuple #[] ∧ I (IntKind.wrap IntKind.i64 (x + (1 : Int))) w' ∧ μ (IntKind.wrap IntKind.i64 (x + (1 : Int))) w' <
 μ x w else K (Value.tuple #[]) w
theorem code_writer_flag.calls (ok : Okay Tryz.prog) {wx : Option Addr} {l_A : Option Addr} {l_n : Nat} {l_c : Nat} {w : World} {K : Value → World → Prop} (h : code_writer_flag.W wx l_A l_n l_c w K) : CallsV Tryz.prog 29 #[.pointer wx, .slice l_A l_n l_c] w K :=
  fnW_calls ok Tryz.func29 (an := (.named (.seq .auto (.block (.loop [(9, .one (.int .i64))] .auto))))) (args := [.pointer wx, .slice l_A l_n l_c]) (Eq.mp (by kernel_rfl) h)
noncomputable def code_writer_text.W : Option Addr → ByteArray → World → (Value → World → Prop) → Prop := fun (wx : Option Addr) (s : ByteArray) (w : World) (K : Value → World → Prop) => ∃ (a : Addr),
 wx = some a ∧ ∃ (x : Option Addr) (x_1 x_2 : Nat), World.cell? w (Addr.add a 0) = some (Value.slice x x_1 x_2) ∧ ∃ (x_3 : Option Addr) (x_4 x_5 : Nat) (w' : World), RunsTo Tryz.prog
 (convert 9 32 (Value.string s)) w (Value.slice x_3 x_4 x_5) w' ∧ CallsV Tryz.prog 28 #[Value.slice x x_1 x_2, Value.slice x_3 x_4 x_5] w' fun (v : Value) (w' : World) => ∃ (x : Option Addr) (x_6 x_7 :
 Nat), v = Value.slice x x_6 x_7 ∧ ∃ (a : Addr), wx = some a ∧ stOK (Addr.add a 0) 0 [Value.slice x x_6 x_7] w' ∧ ∀ (w'_1 : World), w'_1 = setAll (Addr.add a 0) 0 [Value.slice x x_6 x_7] w' → K
 (Value.tuple #[]) w'_1
theorem code_writer_text.calls (ok : Okay Tryz.prog) {wx : Option Addr} {s : ByteArray} {w : World} {K : Value → World → Prop} (h : code_writer_text.W wx s w K) : CallsV Tryz.prog 26 #[.pointer wx, .string s] w K :=
  fnW_calls ok Tryz.func26 (an := (.named .auto)) (args := [.pointer wx, .string s]) (Eq.mp (by kernel_rfl) h)
noncomputable def code_Bytes.W : Int → Int → Int → Option Addr → Nat → Nat → Option Addr → Nat → Nat → Option Addr → Nat → Nat → Option Addr → Nat → Nat → Option Addr → Nat → Nat → Option Addr → Nat →
 Nat → World → (Value → World → Prop) → Prop := fun (p0 p1 p2 : Int) (p3_A : Option Addr) (p3_n p3_c : Nat) (p4_A : Option Addr) (p4_n p4_c : Nat) (p5_A : Option Addr) (p5_n p5_c : Nat) (p6_A : Option
 Addr) (p6_n p6_c : Nat) (p7_A : Option Addr) (p7_n p7_c : Nat) (p8_A : Option Addr) (p8_n p8_c : Nat) (w : World) (K : Value → World → Prop) => ∀ (g : Nat) (w' : World), Fresh w g w' [Value.int
 IntKind.i64 p0, Value.int IntKind.i64 p1, Value.int IntKind.i64 p2, Value.slice p3_A p3_n p3_c, Value.slice p4_A p4_n p4_c, Value.slice p5_A p5_n p5_c, Value.slice p6_A p6_n p6_c, Value.slice p7_A p7_n
 p7_c, Value.slice p8_A p8_n p8_c] 29 → ∃ (x : Int), World.cell? w' (Addr.add (Addr.mk g 0 none) 0) = some (Value.int IntKind.i64 x) ∧ ∃ (x_1 : Int), World.cell? w' (Addr.add (Addr.mk g 0
 none) 1) = some (Value.int IntKind.i64 x_1) ∧ ∃ (x_2 : Int), World.cell? w' (Addr.add (Addr.mk g 0 none) 2) = some (Value.int IntKind.i64 x_2) ∧ ∃ (x_3 : Option Addr) (x_4
 x_5 : Nat), World.cell? w' (Addr.add (Addr.mk g 0 none) 3) = some (Value.slice x_3 x_4 x_5) ∧ ∃ (x_6 : Option Addr) (x_7 x_8 : Nat), World.cell? w' (Addr.add (Addr.mk g 0 none) 4)
 = some (Value.slice x_6 x_7 x_8) ∧ ∃ (x_9 : Option Addr) (x_10 x_11 : Nat), World.cell? w' (Addr.add (Addr.mk g 0 none) 5) = some (Value.slice x_9 x_10 x_11) ∧ ∃ (x_12 : Option
 Addr) (x_13 x_14 : Nat), World.cell? w' (Addr.add (Addr.mk g 0 none) 6) = some (Value.slice x_12 x_13 x_14) ∧ ∃ (x_15 : Option Addr) (x_16 x_17 : Nat), World.cell? w' (Addr.add (Addr.mk g
 0 none) 7) = some (Value.slice x_15 x_16 x_17) ∧ ∃ (x_18 : Option Addr) (x_19 x_20 : Nat), World.cell? w' (Addr.add (Addr.mk g 0 none) 8) = some (Value.slice x_18 x_19 x_20)
 ∧ CallsV Tryz.prog 12 #[Value.agg #[Value.int IntKind.i64 x, Value.int IntKind.i64 x_1, Value.int IntKind.i64 x_2, Value.slice x_3 x_4 x_5, Value.slice x_6 x_7 x_8, Value.slice x_9 x_10 x_11,
 Value.slice x_12 x_13 x_14, Value.slice x_15 x_16 x_17, Value.slice x_18 x_19 x_20]] w' fun (v : Value) (w' : World) => ∃ (x : Int), v = Value.int IntKind.i64 x ∧ bif !decide (x = (0 : Int))
 then K (Value.tuple #[Value.slice none 0 0, Value.int IntKind.i64 x]) w' else ∀ (g_1 : Nat) (w'_1 : World), Fresh w' g_1 w'_1 [Value.slice none 0 0] 64 → ∃ (x : Int), World.cell? w'_1
 (Addr.add (Addr.mk g 0 none) 0) = some (Value.int IntKind.i64 x) ∧ ∃ (x_21 : Int), World.cell? w'_1 (Addr.add (Addr.mk g 0 none) 1) = some (Value.int IntKind.i64 x_21) ∧ ∃
 (x_22 : Int), World.cell? w'_1 (Addr.add (Addr.mk g 0 none) 2) = some (Value.int IntKind.i64 x_22) ∧ ∃ (x_23 : Option Addr) (x_24 x_25 : Nat), World.cell? w'_1 (Addr.add (Addr.mk g 0
 none) 3) = some (Value.slice x_23 x_24 x_25) ∧ ∀ (g_2 : Nat) (w' : World), Fresh w'_1 g_2 w' [Value.int IntKind.i64 x, Value.int IntKind.i64 x_21, Value.int IntKind.i64 x_22, Value.int
 IntKind.i64 (↑x_24 : Int)] 3 → CallsV Tryz.prog 25 #[Value.pointer (some (Addr.mk g_1 0 none)), Value.slice (some (Addr.mk g_2 0 none)) 4 4] w' fun (v : Value) (w' : World)
 => v = Value.tuple #[] ∧ ∃ (x : Option Addr) (x_26 x_27 : Nat), World.cell? w' (Addr.add (Addr.mk g 0 none) 3) = some (Value.slice x x_26 x_27) ∧ ∃ (I : Int → World → Prop) (μ : Int →
 World → Nat), I (0 : Int) w' ∧ ∀ (x_28 : Int) (w : World), I x_28 w → bif decide (x_28 < (↑x_26 : Int)) then ∃ (ad : Addr), x = some ad ∧ ((0 : Int) ≤ x_28 ∧ x_28 < (↑x_26 : Int)) ∧ ∃
 (x : ByteArray), World.cell? w (Addr.add ad (Int.toNat x_28 * 1)) = some (Value.string x) ∧ CallsV Tryz.prog 26 #[Value.pointer (some (Addr.mk g_1 0 none)), Value.string x] w fun
 (v : Value) (w' : World) => v = Value.tuple #[] ∧ I (IntKind.wrap IntKind.i64 (x_28 + (1 : Int))) w' ∧ μ (IntKind.wrap IntKind.i64 (x_28 + (1 : Int))) w' < μ x_28 w else ∃ (x : Option Addr) (x_29 x_30
 : Nat), World.cell? w (Addr.add (Addr.mk g 0 none) 4) = some (Value.slice x x_29 x_30) ∧ ∀ (g_3 : Nat) (w' : World), Fresh w g_3 w' [Value.int IntKind.i64 (↑x_29 : Int)] 3 → CallsV
 Tryz.prog 25 #[Value.pointer (some (Addr.mk g_1 0 none)), Value.slice (some (Addr.mk g_3 0 none)) 1 1] w' fun (v : Value) (w' : World) => v = Value.tuple #[] ∧ ∃ (x : Option
 Addr) (x_31 x_32 : Nat), World.cell? w' (Addr.add (Addr.mk g 0 none) 4) = some (Value.slice x x_31 x_32) ∧ ∃ (I : Int → World → Prop) (μ : Int → World → Nat), I (0 : Int) w' ∧ ∀ (x_33 :
 Int) (w : World), I x_33 w → bif decide (x_33 < (↑x_31 : Int)) then ∃ (ad : Addr), x = some ad ∧ ((0 : Int) ≤ x_33 ∧ x_33 < (↑x_31 : Int)) ∧ ∃ (x : Int), World.cell? w (Addr.add
 (Addr.add ad (Int.toNat x_33 * 3)) 0) = some (Value.int IntKind.u8 x) ∧ ∃ (x_34 : Int), World.cell? w (Addr.add (Addr.add ad (Int.toNat x_33 * 3)) 1) = some (Value.int IntKind.i64 x_34) ∧
 ∃ (x_35 : ByteArray), World.cell? w (Addr.add (Addr.add ad (Int.toNat x_33 * 3)) 2) = some (Value.string x_35) ∧ ∀ (g : Nat) (w' : World), Fresh w g w' [Value.int IntKind.u8 (0 : Int), Value.int
 IntKind.i64 (0 : Int), Value.string (ByteArray.mk #[])] 54 → stOK (Addr.mk g 0 none) 0 [Value.int IntKind.u8 x, Value.int IntKind.i64 x_34, Value.string x_35] w' ∧ ∀ (w'_2 : World), w'_2 =
 setAll (Addr.mk g 0 none) 0 [Value.int IntKind.u8 x, Value.int IntKind.i64 x_34, Value.string x_35] w' → ∃ (x : Int), World.cell? w'_2 (Addr.add (Addr.mk g 0 none) 0) = some
 (Value.int IntKind.u8 x) ∧ ∃ (x_36 : Int), World.cell? w'_2 (Addr.add (Addr.mk g 0 none) 1) = some (Value.int IntKind.i64 x_36) ∧ ∃ (x_37 : ByteArray), World.cell? w'_2 (Addr.add (Addr.mk
 g 0 none) 2) = some (Value.string x_37) ∧ ∀ (g : Nat) (w' : World), Fresh w'_2 g w' [Value.int IntKind.u8 x, Value.int IntKind.i64 x_36, Value.string x_37] 54 → CallsV Tryz.prog 27
 #[Value.slice (some (Addr.mk g 0 none)) 1 1] w' fun (v : Value) (w' : World) => ∃ (x : Option Addr) (x_38 x_39 : Nat) (x_40 : Int), v = Value.tuple #[Value.slice x x_38 x_39, Value.int
 IntKind.i64 x_40] ∧ ∃ (a : Addr), some (Addr.mk g_1 0 none) = some a ∧ ∃ (x_41 : Option Addr) (x_42 x_43 : Nat), World.cell? w' (Addr.add a 0) = some (Value.slice x_41 x_42
 x_43) ∧ CallsV Tryz.prog 28 #[Value.slice x_41 x_42 x_43, Value.slice x x_38 x_39] w' fun (v : Value) (w' : World) => ∃ (x : Option Addr) (x_44 x_45 : Nat), v = Value.slice x x_44 x_45 ∧ ∃ (a : Addr),
 some (Addr.mk g_1 0 none) = some a ∧ stOK (Addr.add a 0) 0 [Value.slice x x_44 x_45] w' ∧ ∀ (w'_3 : World), w'_3 = setAll (Addr.add a 0) 0 [Value.slice x x_44 x_45] w' → ∃ (a :
 Addr), some (Addr.mk g_1 0 none) = some a ∧ ∃ (x : Option Addr) (x_46 x_47 : Nat), World.cell? w'_3 (Addr.add a 0) = some (Value.slice x x_46 x_47) ∧ bif decide
 ((1048576 : Int) < (↑x_46 : Int)) then K (Value.tuple #[Value.slice none 0 0, Value.int IntKind.i64 (3 : Int)]) w'_3 else I (IntKind.wrap IntKind.i64 (x_33 + (1 : Int))) w'_3 ∧ μ (IntKind.wrap
 IntKind.i64 (x_33 + (1 : Int))) w'_3 < μ x_33 w else ∃ (x : Option Addr) (x_34 x_35 : Nat), World.cell? w (Addr.add (Addr.mk g 0 none) 5) = some (Value.slice x x_34 x_35) ∧ ∀ (g_4 : Nat)
 (w' : World), Fresh w g_4 w' [Value.int IntKind.i64 (↑x_34 : Int)] 3 → CallsV Tryz.prog 25 #[Value.pointer (some (Addr.mk g_1 0 none)), Value.slice (some (Addr.mk g_4 0
 none)) 1 1] w' fun (v : Value) (w' : World) => v = Value.tuple #[] ∧ ∃ (x : Option Addr) (x_36 x_37 : Nat), World.cell? w' (Addr.add (Addr.mk g 0 none) 5) = some (Value.slice x
 x_36 x_37) ∧ ∃ (I : Int → World → Prop) (μ : Int → World → Nat), I (0 : Int) w' ∧ ∀ (x_38 : Int) (w : World), I x_38 w → bif decide (x_38 < (↑x_36 : Int)) then ∃ (ad : Addr), x = some
 ad ∧ ((0 : Int) ≤ x_38 ∧ x_38 < (↑x_36 : Int)) ∧ ∃ (x : ByteArray), World.cell? w (Addr.add (Addr.add ad (Int.toNat x_38 * 3)) 0) = some (Value.string x) ∧ ∃ (x_39 : Bool), World.cell? w
 (Addr.add (Addr.add ad (Int.toNat x_38 * 3)) 1) = some (Value.bool x_39) ∧ ∃ (x_40 : Bool), World.cell? w (Addr.add (Addr.add ad (Int.toNat x_38 * 3)) 2) = some (Value.bool x_40) ∧ ∀ (g :
 Nat) (w' : World), Fresh w g w' [Value.string (ByteArray.mk #[]), Value.bool false, Value.bool false] 56 → stOK (Addr.mk g 0 none) 0 [Value.string x, Value.bool x_39, Value.bool x_40]
 w' ∧ ∀ (w'_2 : World), w'_2 = setAll (Addr.mk g 0 none) 0 [Value.string x, Value.bool x_39, Value.bool x_40] w' → ∃ (x : ByteArray), World.cell? w'_2 (Addr.add (Addr.mk g 0 none) 0) =
 some (Value.string x) ∧ CallsV Tryz.prog 26 #[Value.pointer (some (Addr.mk g_1 0 none)), Value.string x] w'_2 fun (v : Value) (w' : World) => v = Value.tuple #[] ∧ ∃ (x : Bool),
 World.cell? w' (Addr.add (Addr.mk g 0 none) 1) = some (Value.bool x) ∧ ∃ (x_41 : Bool), World.cell? w' (Addr.add (Addr.mk g 0 none) 2) = some (Value.bool x_41) ∧ ∀ (g : Nat)
 (w'_3 : World), Fresh w' g w'_3 [Value.bool x, Value.bool x_41] 4 → CallsV Tryz.prog 29 #[Value.pointer (some (Addr.mk g_1 0 none)), Value.slice (some (Addr.mk g 0 none)) 2
 2] w'_3 fun (v : Value) (w' : World) => v = Value.tuple #[] ∧ I (IntKind.wrap IntKind.i64 (x_38 + (1 : Int))) w' ∧ μ (IntKind.wrap IntKind.i64 (x_38 + (1 : Int))) w' < μ x_38 w else ∃ (x : Option Addr)
 (x_39 x_40 : Nat), World.cell? w (Addr.add (Addr.mk g 0 none) 6) = some (Value.slice x x_39 x_40) ∧ ∀ (g_5 : Nat) (w' : World), Fresh w g_5 w' [Value.int IntKind.i64 (↑x_39 : Int)] 3 →
 CallsV Tryz.prog 25 #[Value.pointer (some (Addr.mk g_1 0 none)), Value.slice (some (Addr.mk g_5 0 none)) 1 1] w' fun (v : Value) (w' : World) => v = Value.tuple #[] ∧ ∃ (x :
 Option Addr) (x_41 x_42 : Nat), World.cell? w' (Addr.add (Addr.mk g 0 none) 6) = some (Value.slice x x_41 x_42) ∧ ∃ (I : Int → World → Prop) (μ : Int → World → Nat), I (0 : Int) w' ∧ ∀
 (x_43 : Int) (w : World), I x_43 w → bif decide (x_43 < (↑x_41 : Int)) then ∃ (ad : Addr), x = some ad ∧ ((0 : Int) ≤ x_43 ∧ x_43 < (↑x_41 : Int)) ∧ ∃ (x : Option Addr) (x_44 x_45 :
 Nat), World.cell? w (Addr.add (Addr.add ad (Int.toNat x_43 * 3)) 0) = some (Value.slice x x_44 x_45) ∧ ∃ (x_46 : Int), World.cell? w (Addr.add (Addr.add ad (Int.toNat x_43 * 3)) 1) = some
 (Value.int IntKind.i64 x_46) ∧ ∃ (x_47 : Bool), World.cell? w (Addr.add (Addr.add ad (Int.toNat x_43 * 3)) 2) = some (Value.bool x_47) ∧ ∀ (g : Nat) (w' : World), Fresh w g w' [Value.slice
 none 0 0, Value.int IntKind.i64 (0 : Int), Value.bool false] 59 → stOK (Addr.mk g 0 none) 0 [Value.slice x x_44 x_45, Value.int IntKind.i64 x_46, Value.bool x_47] w' ∧ ∀ (w'_2 :
 World), w'_2 = setAll (Addr.mk g 0 none) 0 [Value.slice x x_44 x_45, Value.int IntKind.i64 x_46, Value.bool x_47] w' → ∃ (x : Option Addr) (x_48 x_49 : Nat), World.cell? w'_2 (Addr.add (Addr.mk
 g 0 none) 0) = some (Value.slice x x_48 x_49) ∧ ∀ (g_6 : Nat) (w' : World), Fresh w'_2 g_6 w' [Value.int IntKind.i64 (↑x_48 : Int)] 3 → CallsV Tryz.prog 25 #[Value.pointer (some
 (Addr.mk g_1 0 none)), Value.slice (some (Addr.mk g_6 0 none)) 1 1] w' fun (v : Value) (w' : World) => v = Value.tuple #[] ∧ ∃ (x : Option Addr) (x_50 x_51 : Nat), World.cell? w'
 (Addr.add (Addr.mk g 0 none) 0) = some (Value.slice x x_50 x_51) ∧ CallsV Tryz.prog 29 #[Value.pointer (some (Addr.mk g_1 0 none)), Value.slice x x_50 x_51] w' fun (v :
 Value) (w' : World) => v = Value.tuple #[] ∧ ∃ (x : Int), World.cell? w' (Addr.add (Addr.mk g 0 none) 1) = some (Value.int IntKind.i64 x) ∧ ∀ (g_7 : Nat) (w'_3 : World), Fresh w' g_7 w'_3
 [Value.int IntKind.i64 x] 3 → CallsV Tryz.prog 25 #[Value.pointer (some (Addr.mk g_1 0 none)), Value.slice (some (Addr.mk g_7 0 none)) 1 1] w'_3 fun (v : Value) (w' : World)
 => v = Value.tuple #[] ∧ ∃ (x : Bool), World.cell? w' (Addr.add (Addr.mk g 0 none) 2) = some (Value.bool x) ∧ ∀ (g : Nat) (w'_4 : World), Fresh w' g w'_4 [Value.bool x] 4 → CallsV
 Tryz.prog 29 #[Value.pointer (some (Addr.mk g_1 0 none)), Value.slice (some (Addr.mk g 0 none)) 1 1] w'_4 fun (v : Value) (w' : World) => v = Value.tuple #[] ∧ I
 (IntKind.wrap IntKind.i64 (x_43 + (1 : Int))) w' ∧ μ (IntKind.wrap IntKind.i64 (x_43 + (1 : Int))) w' < μ x_43 w else ∃ (x : Option Addr) (x_44 x_45 : Nat), World.cell? w (Addr.add (Addr.mk g 0
 none) 7) = some (Value.slice x x_44 x_45) ∧ ∀ (g_6 : Nat) (w' : World), Fresh w g_6 w' [Value.int IntKind.i64 (↑x_44 : Int)] 3 → CallsV Tryz.prog 25 #[Value.pointer (some (Addr.mk
 g_1 0 none)), Value.slice (some (Addr.mk g_6 0 none)) 1 1] w' fun (v : Value) (w' : World) => v = Value.tuple #[] ∧ ∃ (x : Option Addr) (x_46 x_47 : Nat), World.cell? w' (Addr.add
 (Addr.mk g 0 none) 7) = some (Value.slice x x_46 x_47) ∧ ∃ (I : Int → World → Prop) (μ : Int → World → Nat), I (0 : Int) w' ∧ ∀ (x_48 : Int) (w : World), I x_48 w → bif decide
 (x_48 < (↑x_46 : Int)) then ∃ (ad : Addr), x = some ad ∧ ((0 : Int) ≤ x_48 ∧ x_48 < (↑x_46 : Int)) ∧ ∃ (x : ByteArray), World.cell? w (Addr.add (Addr.add ad (Int.toNat x_48 * 2)) 0) =
 some (Value.string x) ∧ ∃ (x_49 : Bool), World.cell? w (Addr.add (Addr.add ad (Int.toNat x_48 * 2)) 1) = some (Value.bool x_49) ∧ ∀ (g : Nat) (w' : World), Fresh w g w' [Value.string
 (ByteArray.mk #[]), Value.bool false] 61 → stOK (Addr.mk g 0 none) 0 [Value.string x, Value.bool x_49] w' ∧ ∀ (w'_2 : World), w'_2 = setAll (Addr.mk g 0 none) 0 [Value.string x,
 Value.bool x_49] w' → ∃ (x : ByteArray), World.cell? w'_2 (Addr.add (Addr.mk g 0 none) 0) = some (Value.string x) ∧ CallsV Tryz.prog 26 #[Value.pointer (some (Addr.mk g_1 0
 none)), Value.string x] w'_2 fun (v : Value) (w' : World) => v = Value.tuple #[] ∧ ∃ (x : Bool), World.cell? w' (Addr.add (Addr.mk g 0 none) 1) = some (Value.bool x) ∧ ∀ (g : Nat)
 (w'_3 : World), Fresh w' g w'_3 [Value.bool x] 4 → CallsV Tryz.prog 29 #[Value.pointer (some (Addr.mk g_1 0 none)), Value.slice (some (Addr.mk g 0 none)) 1 1] w'_3 fun (v :
 Value) (w' : World) => v = Value.tuple #[] ∧ I (IntKind.wrap IntKind.i64 (x_48 + (1 : Int))) w' ∧ μ (IntKind.wrap IntKind.i64 (x_48 + (1 : Int))) w' < μ x_48 w else ∃ (x : Option Addr) (x_49 x_50 :
 Nat), World.cell? w (Addr.add (Addr.mk g 0 none) 8) = some (Value.slice x x_49 x_50) ∧ ∀ (g_7 : Nat) (w' : World), Fresh w g_7 w' [Value.int IntKind.i64 (↑x_49 : Int)] 3 → CallsV
 Tryz.prog 25 #[Value.pointer (some (Addr.mk g_1 0 none)), Value.slice (some (Addr.mk g_7 0 none)) 1 1] w' fun (v : Value) (w' : World) => v = Value.tuple #[] ∧ ∃ (x : Option
 Addr) (x_51 x_52 : Nat), World.cell? w' (Addr.add (Addr.mk g 0 none) 8) = some (Value.slice x x_51 x_52) ∧ ∃ (I : Int → World → Prop) (μ : Int → World → Nat), I (0 : Int) w' ∧ ∀ (x_53 :
 Int) (w : World), I x_53 w → bif decide (x_53 < (↑x_51 : Int)) then ∃ (ad : Addr), x = some ad ∧ ((0 : Int) ≤ x_53 ∧ x_53 < (↑x_51 : Int)) ∧ ∃ (x : Int), World.cell? w (Addr.add
 (Addr.add ad (Int.toNat x_53 * 5)) 0) = some (Value.int IntKind.u8 x) ∧ ∃ (x_54 : Int), World.cell? w (Addr.add (Addr.add ad (Int.toNat x_53 * 5)) 1) = some (Value.int IntKind.i64 x_54) ∧
 ∃ (x_55 : Int), World.cell? w (Addr.add (Addr.add ad (Int.toNat x_53 * 5)) 2) = some (Value.int IntKind.i64 x_55) ∧ ∃ (x_56 : Int), World.cell? w (Addr.add (Addr.add ad (Int.toNat x_53 * 5)) 3)
 = some (Value.int IntKind.i64 x_56) ∧ ∃ (x_57 : Int), World.cell? w (Addr.add (Addr.add ad (Int.toNat x_53 * 5)) 4) = some (Value.int IntKind.i64 x_57) ∧ ∀ (g : Nat) (w' : World), Fresh w
 g w' [Value.int IntKind.u8 (0 : Int), Value.int IntKind.i64 (0 : Int), Value.int IntKind.i64 (0 : Int), Value.int IntKind.i64 (0 : Int), Value.int IntKind.i64 (0 : Int)] 46 → stOK (Addr.mk g 0
 none) 0 [Value.int IntKind.u8 x, Value.int IntKind.i64 x_54, Value.int IntKind.i64 x_55, Value.int IntKind.i64 x_56, Value.int IntKind.i64 x_57] w' ∧ ∀ (w'_2 : World), w'_2 = setAll (Addr.mk g 0
 none) 0 [Value.int IntKind.u8 x, Value.int IntKind.i64 x_54, Value.int IntKind.i64 x_55, Value.int IntKind.i64 x_56, Value.int IntKind.i64 x_57] w' → ∃ (x : Int), World.cell? w'_2 (Addr.add
 (Addr.mk g 0 none) 0) = some (Value.int IntKind.u8 x) ∧ ∃ (x_58 : Int), World.cell? w'_2 (Addr.add (Addr.mk g 0 none) 1) = some (Value.int IntKind.i64 x_58) ∧ ∃ (x_59 :
 Int), World.cell? w'_2 (Addr.add (Addr.mk g 0 none) 2) = some (Value.int IntKind.i64 x_59) ∧ ∃ (x_60 : Int), World.cell? w'_2 (Addr.add (Addr.mk g 0 none) 3) = some
 (Value.int IntKind.i64 x_60) ∧ ∃ (x_61 : Int), World.cell? w'_2 (Addr.add (Addr.mk g 0 none) 4) = some (Value.int IntKind.i64 x_61) ∧ ∀ (g : Nat) (w' : World), Fresh w'_2 g w' [Value.int
 IntKind.i64 (IntKind.wrap IntKind.i64 x), Value.int IntKind.i64 x_58, Value.int IntKind.i64 x_59, Value.int IntKind.i64 x_60, Value.int IntKind.i64 x_61] 3 → CallsV Tryz.prog 25 #[Value.pointer
 (some (Addr.mk g_1 0 none)), Value.slice (some (Addr.mk g 0 none)) 5 5] w' fun (v : Value) (w' : World) => v = Value.tuple #[] ∧ I (IntKind.wrap IntKind.i64 (x_53 + (1 :
 Int))) w' ∧ μ (IntKind.wrap IntKind.i64 (x_53 + (1 : Int))) w' < μ x_53 w else ∃ (a : Addr), some (Addr.mk g_1 0 none) = some a ∧ ∃ (x : Option Addr) (x_54 x_55 : Nat), World.cell?
 w (Addr.add a 0) = some (Value.slice x x_54 x_55) ∧ bif decide ((1048576 : Int) < (↑x_54 : Int)) then K (Value.tuple #[Value.slice none 0 0, Value.int IntKind.i64 (3 : Int)]) w
 else ∃ (a : Addr), some (Addr.mk g_1 0 none) = some a ∧ ∃ (x : Option Addr) (x_56 x_57 : Nat), World.cell? w (Addr.add a 0) = some (Value.slice x x_56 x_57) ∧ K (Value.tuple
 #[Value.slice x x_56 x_57, Value.int IntKind.i64 (0 : Int)]) w
theorem code_Bytes.calls (ok : Okay Tryz.prog) {p0 : Int} {p1 : Int} {p2 : Int} {p3_A : Option Addr} {p3_n : Nat} {p3_c : Nat} {p4_A : Option Addr} {p4_n : Nat} {p4_c : Nat} {p5_A : Option Addr} {p5_n : Nat} {p5_c : Nat} {p6_A : Option Addr} {p6_n : Nat} {p6_c : Nat} {p7_A : Option Addr} {p7_n : Nat} {p7_c : Nat} {p8_A : Option Addr} {p8_n : Nat} {p8_c : Nat} {w : World} {K : Value → World → Prop} (h : code_Bytes.W p0 p1 p2 p3_A p3_n p3_c p4_A p4_n p4_c p5_A p5_n p5_c p6_A p6_n p6_c p7_A p7_n p7_c p8_A p8_n p8_c w K) : CallsV Tryz.prog 8 #[.agg #[.int .i64 p0, .int .i64 p1, .int .i64 p2, .slice p3_A p3_n p3_c, .slice p4_A p4_n p4_c, .slice p5_A p5_n p5_c, .slice p6_A p6_n p6_c, .slice p7_A p7_n p7_c, .slice p8_A p8_n p8_c]] w K :=
  fnW_calls ok Tryz.func8 (an := (.named (.seq .auto (.seq .auto (.seq .auto (.seq .auto (.seq (.seq .auto (.block (.loop [(42, .one (.int .i64))] .auto))) (.seq .auto (.seq (.seq .auto (.block (.loop [(59, .one (.int .i64))] .auto))) (.seq .auto (.seq (.seq .auto (.block (.loop [(94, .one (.int .i64))] .auto))) (.seq .auto (.seq (.seq .auto (.block (.loop [(119, .one (.int .i64))] .auto))) (.seq .auto (.seq (.seq .auto (.block (.loop [(153, .one (.int .i64))] .auto))) (.seq .auto (.seq (.seq .auto (.block (.loop [(176, .one (.int .i64))] .auto))) .auto))))))))))))))))) (args := [.agg #[.int .i64 p0, .int .i64 p1, .int .i64 p2, .slice p3_A p3_n p3_c, .slice p4_A p4_n p4_c, .slice p5_A p5_n p5_c, .slice p6_A p6_n p6_c, .slice p7_A p7_n p7_c, .slice p8_A p8_n p8_c]]) (Eq.mp (by kernel_rfl) h)
noncomputable def cardindexlaw15_Same.W : Int → Int → Int → Option Addr → Nat → Nat → Option Addr → Nat → Nat → Option Addr → Nat → Nat → Option Addr → Nat → Nat → Option Addr → Nat → Nat → Option Addr
 → Nat → Nat → Int → Int → Int → Option Addr → Nat → Nat → Option Addr → Nat → Nat → Option Addr → Nat → Nat → Option Addr → Nat → Nat → Option Addr → Nat → Nat → Option Addr → Nat → Nat → World →
 (Value → World → Prop) → Prop := fun (a0 a1 a2 : Int) (a3_A : Option Addr) (a3_n a3_c : Nat) (a4_A : Option Addr) (a4_n a4_c : Nat) (a5_A : Option Addr) (a5_n a5_c : Nat) (a6_A : Option Addr) (a6_n
 a6_c : Nat) (a7_A : Option Addr) (a7_n a7_c : Nat) (a8_A : Option Addr) (a8_n a8_c : Nat) (b0 b1 b2 : Int) (b3_A : Option Addr) (b3_n b3_c : Nat) (b4_A : Option Addr) (b4_n b4_c : Nat) (b5_A : Option
 Addr) (b5_n b5_c : Nat) (b6_A : Option Addr) (b6_n b6_c : Nat) (b7_A : Option Addr) (b7_n b7_c : Nat) (b8_A : Option Addr) (b8_n b8_c : Nat) (w : World) (K : Value → World → Prop) => ∀ (g : Nat) (w' :
 World), Fresh w g w' [Value.int IntKind.i64 a0, Value.int IntKind.i64 a1, Value.int IntKind.i64 a2, Value.slice a3_A a3_n a3_c, Value.slice a4_A a4_n a4_c, Value.slice a5_A a5_n a5_c, Value.slice a6_A
 a6_n a6_c, Value.slice a7_A a7_n a7_c, Value.slice a8_A a8_n a8_c] 29 → ∀ (g_1 : Nat) (w'_1 : World), Fresh w' g_1 w'_1 [Value.int IntKind.i64 b0, Value.int IntKind.i64 b1, Value.int IntKind.i64 b2,
 Value.slice b3_A b3_n b3_c, Value.slice b4_A b4_n b4_c, Value.slice b5_A b5_n b5_c, Value.slice b6_A b6_n b6_c, Value.slice b7_A b7_n b7_c, Value.slice b8_A b8_n b8_c] 29 → ∃ (x : Int), World.cell?
 w'_1 (Addr.add (Addr.mk g 0 none) 0) = some (Value.int IntKind.i64 x) ∧ ∃ (x_1 : Int), World.cell? w'_1 (Addr.add (Addr.mk g_1 0 none) 0) = some (Value.int IntKind.i64 x_1)
 ∧ bif !decide (x = x_1) then K (Value.bool false) w'_1 else ∃ (x : Int), World.cell? w'_1 (Addr.add (Addr.mk g 0 none) 1) = some (Value.int IntKind.i64 x) ∧ ∃ (x_2 : Int),
 World.cell? w'_1 (Addr.add (Addr.mk g_1 0 none) 1) = some (Value.int IntKind.i64 x_2) ∧ bif !decide (x = x_2) then K (Value.bool false) w'_1 else ∃ (x : Int), World.cell?
 w'_1 (Addr.add (Addr.mk g 0 none) 2) = some (Value.int IntKind.i64 x) ∧ ∃ (x_3 : Int), World.cell? w'_1 (Addr.add (Addr.mk g_1 0 none) 2) = some (Value.int IntKind.i64 x_3)
 ∧ bif !decide (x = x_3) then K (Value.bool false) w'_1 else ∃ (x : Option Addr) (x_4 x_5 : Nat), World.cell? w'_1 (Addr.add (Addr.mk g 0 none) 3) = some (Value.slice x x_4
 x_5) ∧ ∃ (x_6 : Option Addr) (x_7 x_8 : Nat), World.cell? w'_1 (Addr.add (Addr.mk g_1 0 none) 3) = some (Value.slice x_6 x_7 x_8) ∧ CallsV Tryz.prog 44 #[Value.slice x x_4 x_5,
 Value.slice x_6 x_7 x_8] w'_1 fun (v : Value) (w' : World) => ∃ (x : Bool), v = Value.bool x ∧ bif !x then K (Value.bool false) w' else ∃ (x : Option Addr) (x_9 x_10 : Nat), World.cell? w'
 (Addr.add (Addr.mk g 0 none) 4) = some (Value.slice x x_9 x_10) ∧ ∃ (x : Option Addr) (x_11 x_12 : Nat), World.cell? w' (Addr.add (Addr.mk g_1 0 none) 4) = some (Value.slice
 x x_11 x_12) ∧ bif !decide ((↑x_9 : Int) = (↑x_11 : Int)) then K (Value.bool false) w' else ∃ (x : Option Addr) (x_13 x_14 : Nat), World.cell? w' (Addr.add (Addr.mk g 0 none) 5) =
 some (Value.slice x x_13 x_14) ∧ ∃ (x : Option Addr) (x_15 x_16 : Nat), World.cell? w' (Addr.add (Addr.mk g_1 0 none) 5) = some (Value.slice x x_15 x_16) ∧ bif !decide
 ((↑x_13 : Int) = (↑x_15 : Int)) then K (Value.bool false) w' else ∃ (x : Option Addr) (x_17 x_18 : Nat), World.cell? w' (Addr.add (Addr.mk g 0 none) 6) = some (Value.slice x x_17
 x_18) ∧ ∃ (x : Option Addr) (x_19 x_20 : Nat), World.cell? w' (Addr.add (Addr.mk g_1 0 none) 6) = some (Value.slice x x_19 x_20) ∧ bif !decide ((↑x_17 : Int) = (↑x_19 : Int))
 then K (Value.bool false) w' else ∃ (x : Option Addr) (x_21 x_22 : Nat), World.cell? w' (Addr.add (Addr.mk g 0 none) 7) = some (Value.slice x x_21 x_22) ∧ ∃ (x : Option Addr) (x_23
 x_24 : Nat), World.cell? w' (Addr.add (Addr.mk g_1 0 none) 7) = some (Value.slice x x_23 x_24) ∧ bif !decide ((↑x_21 : Int) = (↑x_23 : Int)) then K (Value.bool false) w'
 else ∃ (x : Option Addr) (x_25 x_26 : Nat), World.cell? w' (Addr.add (Addr.mk g 0 none) 8) = some (Value.slice x x_25 x_26) ∧ ∃ (x : Option Addr) (x_27 x_28 : Nat), World.cell? w'
 (Addr.add (Addr.mk g_1 0 none) 8) = some (Value.slice x x_27 x_28) ∧ bif !decide ((↑x_25 : Int) = (↑x_27 : Int)) then K (Value.bool false) w' else ∃ (x : Option Addr) (x_29
 x_30 : Nat), World.cell? w' (Addr.add (Addr.mk g 0 none) 4) = some (Value.slice x x_29 x_30) ∧ ∃ (I : Int → World → Prop) (μ : Int → World → Nat), I (0 : Int) w' ∧ ∀ (x : Int) (w :
 World), I x w → bif decide (x < (↑x_29 : Int)) then ∃ (S : World → Prop), S (World.drew w) ∧ ∃ (x_31 : Option Addr) (x_32 x_33 : Nat), (∀ (u : World), S u → World.cell? u (Addr.add (Addr.mk g
 0 none) 4) = some (Value.slice x_31 x_32 x_33)) ∧ ∃ (ad : Addr), x_31 = some ad ∧ ((0 : Int) ≤ x ∧ x < (↑x_32 : Int)) ∧ ∃ (x_34 : Int), (∀ (u : World), S u → World.cell? u
 (Addr.add (Addr.add ad (Int.toNat x * 3)) 0) = some (Value.int IntKind.u8 x_34)) ∧ ∃ (x_35 : Int), (∀ (u : World), S u → World.cell? u (Addr.add (Addr.add ad (Int.toNat x * 3)) 1) = some
 (Value.int IntKind.i64 x_35)) ∧ ∃ (x_36 : ByteArray), (∀ (u : World), S u → World.cell? u (Addr.add (Addr.add ad (Int.toNat x * 3)) 2) = some (Value.string x_36)) ∧ ∃ (x_37 : Option Addr) (x_38
 x_39 : Nat), (∀ (u : World), S u → World.cell? u (Addr.add (Addr.mk g_1 0 none) 4) = some (Value.slice x_37 x_38 x_39)) ∧ ∃ (ad : Addr), x_37 = some ad ∧ ((0 : Int) ≤ x ∧ x <
 (↑x_38 : Int)) ∧ ∃ (x_40 : Int), (∀ (u : World), S u → World.cell? u (Addr.add (Addr.add ad (Int.toNat x * 3)) 0) = some (Value.int IntKind.u8 x_40)) ∧ ∃ (x_41 : Int), (∀ (u : World), S u →
 World.cell? u (Addr.add (Addr.add ad (Int.toNat x * 3)) 1) = some (Value.int IntKind.i64 x_41)) ∧ ∃ (x_42 : ByteArray), (∀ (u : World), S u → World.cell? u (Addr.add (Addr.add ad (Int.toNat x *
 3)) 2) = some (Value.string x_42)) ∧ bif Program.stoodInHeld Tryz.prog 54 || Program.eqGuardType Tryz.prog (Program.depth Tryz.prog) 54 || List.any (Array.toList #[Field.mk "Kind" 52 0
 false "" "" 0, Field.mk "N" 2 1 false "" "" 8, Field.mk "S" 9 2 false "" "" 16]) fun (f : Field) => Field.name f == "_" then False else bif !(decide (x_34 = x_40) &&
 (decide (x_35 = x_41) && (ByteArray.toList x_36 == ByteArray.toList x_42 && true))) then K (Value.bool false) (World.drew w) else I (IntKind.wrap IntKind.i64 (x + (1 : Int)))
 (World.drew w) ∧ μ (IntKind.wrap IntKind.i64 (x + (1 : Int))) (World.drew w) < μ x w else ∃ (x : Option Addr) (x_31 x_32 : Nat), World.cell? w (Addr.add (Addr.mk g 0 none) 5) = some
 (Value.slice x x_31 x_32) ∧ ∃ (I : Int → World → Prop) (μ : Int → World → Nat), I (0 : Int) w ∧ ∀ (x : Int) (w : World), I x w → bif decide (x < (↑x_31 : Int)) then ∃ (S : World → Prop), S
 (World.drew w) ∧ ∃ (x_33 : Option Addr) (x_34 x_35 : Nat), (∀ (u : World), S u → World.cell? u (Addr.add (Addr.mk g 0 none) 5) = some (Value.slice x_33 x_34 x_35)) ∧ ∃ (ad : Addr), x_33 =
 some ad ∧ ((0 : Int) ≤ x ∧ x < (↑x_34 : Int)) ∧ ∃ (x_36 : ByteArray), (∀ (u : World), S u → World.cell? u (Addr.add (Addr.add ad (Int.toNat x * 3)) 0) = some (Value.string x_36)) ∧ ∃
 (x_37 : Bool), (∀ (u : World), S u → World.cell? u (Addr.add (Addr.add ad (Int.toNat x * 3)) 1) = some (Value.bool x_37)) ∧ ∃ (x_38 : Bool), (∀ (u : World), S u → World.cell? u (Addr.add
 (Addr.add ad (Int.toNat x * 3)) 2) = some (Value.bool x_38)) ∧ ∃ (x_39 : Option Addr) (x_40 x_41 : Nat), (∀ (u : World), S u → World.cell? u (Addr.add (Addr.mk g_1 0 none) 5) =
 some (Value.slice x_39 x_40 x_41)) ∧ ∃ (ad : Addr), x_39 = some ad ∧ ((0 : Int) ≤ x ∧ x < (↑x_40 : Int)) ∧ ∃ (x_42 : ByteArray), (∀ (u : World), S u → World.cell? u (Addr.add (Addr.add ad
 (Int.toNat x * 3)) 0) = some (Value.string x_42)) ∧ ∃ (x_43 : Bool), (∀ (u : World), S u → World.cell? u (Addr.add (Addr.add ad (Int.toNat x * 3)) 1) = some (Value.bool x_43)) ∧ ∃ (x_44 :
 Bool), (∀ (u : World), S u → World.cell? u (Addr.add (Addr.add ad (Int.toNat x * 3)) 2) = some (Value.bool x_44)) ∧ bif Program.stoodInHeld Tryz.prog 56 || Program.eqGuardType Tryz.prog
 (Program.depth Tryz.prog) 56 || List.any (Array.toList #[Field.mk "Name" 9 0 false "" "" 0, Field.mk "Index" 4 1 false "" "" 16, Field.mk "Write" 4 2 false "" "" 17]) fun (f : Field) =>
 Field.name f == "_" then False else bif !(ByteArray.toList x_36 == ByteArray.toList x_42 && (decide (x_37 = x_43) && (decide (x_38 = x_44) && true))) then K (Value.bool
 false) (World.drew w) else I (IntKind.wrap IntKind.i64 (x + (1 : Int))) (World.drew w) ∧ μ (IntKind.wrap IntKind.i64 (x + (1 : Int))) (World.drew w) < μ x w else ∃ (x : Option Addr) (x_33 x_34 :
 Nat), World.cell? w (Addr.add (Addr.mk g 0 none) 6) = some (Value.slice x x_33 x_34) ∧ ∃ (I : Int → World → Prop) (μ : Int → World → Nat), I (0 : Int) w ∧ ∀ (x : Int) (w : World), I x w →
 bif decide (x < (↑x_33 : Int)) then ∃ (S : World → Prop), S (World.drew w) ∧ ∃ (x_35 : Option Addr) (x_36 x_37 : Nat), (∀ (u : World), S u → World.cell? u (Addr.add (Addr.mk g 0 none)
 6) = some (Value.slice x_35 x_36 x_37)) ∧ ∃ (ad : Addr), x_35 = some ad ∧ ((0 : Int) ≤ x ∧ x < (↑x_36 : Int)) ∧ ∃ (x_38 : Option Addr) (x_39 x_40 : Nat), (∀ (u : World), S u → World.cell?
 u (Addr.add (Addr.add ad (Int.toNat x * 3)) 0) = some (Value.slice x_38 x_39 x_40)) ∧ ∃ (x_41 : Int), (∀ (u : World), S u → World.cell? u (Addr.add (Addr.add ad (Int.toNat x * 3)) 1) =
 some (Value.int IntKind.i64 x_41)) ∧ ∃ (x_42 : Bool), (∀ (u : World), S u → World.cell? u (Addr.add (Addr.add ad (Int.toNat x * 3)) 2) = some (Value.bool x_42)) ∧ ∃ (x_43 : Option Addr)
 (x_44 x_45 : Nat), (∀ (u : World), S u → World.cell? u (Addr.add (Addr.mk g_1 0 none) 6) = some (Value.slice x_43 x_44 x_45)) ∧ ∃ (ad : Addr), x_43 = some ad ∧ ((0 : Int) ≤ x ∧ x <
 (↑x_44 : Int)) ∧ ∃ (x_46 : Option Addr) (x_47 x_48 : Nat), (∀ (u : World), S u → World.cell? u (Addr.add (Addr.add ad (Int.toNat x * 3)) 0) = some (Value.slice x_46 x_47 x_48)) ∧ ∃ (x_49 : Int),
 (∀ (u : World), S u → World.cell? u (Addr.add (Addr.add ad (Int.toNat x * 3)) 1) = some (Value.int IntKind.i64 x_49)) ∧ ∃ (x_50 : Bool), (∀ (u : World), S u → World.cell? u (Addr.add (Addr.add
 ad (Int.toNat x * 3)) 2) = some (Value.bool x_50)) ∧ (∀ (g : Nat) (w' : World), Fresh (World.drew w) g w' [Value.slice none 0 0, Value.int IntKind.i64 (0 : Int), Value.bool false] 59
 → S w' ∧ ∀ (g_2 : Nat) (w'_2 : World), Fresh w' g_2 w'_2 [Value.slice none 0 0, Value.int IntKind.i64 (0 : Int), Value.bool false] 59 → S w'_2 ∧ stOK (Addr.mk g 0 none) 0
 [Value.slice x_38 x_39 x_40, Value.int IntKind.i64 x_41, Value.bool x_42] w'_2 ∧ ∀ (w' : World), w' = setAll (Addr.mk g 0 none) 0 [Value.slice x_38 x_39 x_40, Value.int IntKind.i64 x_41,
 Value.bool x_42] w'_2 → S w' ∧ stOK (Addr.mk g_2 0 none) 0 [Value.slice x_46 x_47 x_48, Value.int IntKind.i64 x_49, Value.bool x_50] w' ∧ ∀ (w'_3 : World), w'_3 = setAll (Addr.mk g_2 0
 none) 0 [Value.slice x_46 x_47 x_48, Value.int IntKind.i64 x_49, Value.bool x_50] w' → ∃ (x_51 : Int), World.cell? w'_3 (Addr.add (Addr.mk g 0 none) 1) = some (Value.int
 IntKind.i64 x_51) ∧ ∃ (x_52 : Int), World.cell? w'_3 (Addr.add (Addr.mk g_2 0 none) 1) = some (Value.int IntKind.i64 x_52) ∧ bif !decide (x_51 = x_52) then K (Value.bool
 false) w'_3 else ∃ (x_53 : Bool), World.cell? w'_3 (Addr.add (Addr.mk g 0 none) 2) = some (Value.bool x_53) ∧ ∃ (x_54 : Bool), World.cell? w'_3 (Addr.add (Addr.mk g_2 0 none)
 2) = some (Value.bool x_54) ∧ bif !decide (x_53 = x_54) then K (Value.bool false) w'_3 else ∃ (x_55 : Option Addr) (x_56 x_57 : Nat), World.cell? w'_3 (Addr.add (Addr.mk g 0
 none) 0) = some (Value.slice x_55 x_56 x_57) ∧ ∃ (x_58 : Option Addr) (x_59 x_60 : Nat), World.cell? w'_3 (Addr.add (Addr.mk g_2 0 none) 0) = some (Value.slice x_58 x_59
 x_60) ∧ bif !decide ((↑x_56 : Int) = (↑x_59 : Int)) then K (Value.bool false) w'_3 else ∃ (x_61 : Option Addr) (x_62 x_63 : Nat), World.cell? w'_3 (Addr.add (Addr.mk g 0 none) 0)
 = some (Value.slice x_61 x_62 x_63) ∧ ∃ (I_1 : Int → World → Prop) (μ_1 : Int → World → Nat), I_1 (0 : Int) w'_3 ∧ ∀ (x_64 : Int) (w_1 : World), I_1 x_64 w_1 → bif decide (x_64 <
 (↑x_62 : Int)) then ∃ (S : World → Prop), S (World.drew w_1) ∧ ∃ (x : Option Addr) (x_65 x_66 : Nat), (∀ (u : World), S u → World.cell? u (Addr.add (Addr.mk g 0 none) 0) = some
 (Value.slice x x_65 x_66)) ∧ ∃ (ad : Addr), x = some ad ∧ ((0 : Int) ≤ x_64 ∧ x_64 < (↑x_65 : Int)) ∧ ∃ (x : Bool), (∀ (u : World), S u → World.cell? u (Addr.add ad (Int.toNat x_64 * 1)) =
 some (Value.bool x)) ∧ ∃ (x_67 : Option Addr) (x_68 x_69 : Nat), (∀ (u : World), S u → World.cell? u (Addr.add (Addr.mk g_2 0 none) 0) = some (Value.slice x_67 x_68 x_69)) ∧ ∃ (ad
 : Addr), x_67 = some ad ∧ ((0 : Int) ≤ x_64 ∧ x_64 < (↑x_68 : Int)) ∧ ∃ (x_70 : Bool), (∀ (u : World), S u → World.cell? u (Addr.add ad (Int.toNat x_64 * 1)) = some (Value.bool x_70)) ∧
 bif !decide (x = x_70) then K (Value.bool false) (World.drew w_1) else I_1 (IntKind.wrap IntKind.i64 (x_64 + (1 : Int))) (World.drew w_1) ∧ μ_1 (IntKind.wrap IntKind.i64 (x_64 + (1 :
 Int))) (World.drew w_1) < μ_1 x_64 w_1 else I (IntKind.wrap IntKind.i64 (x + (1 : Int))) w_1 ∧ μ (IntKind.wrap IntKind.i64 (x + (1 : Int))) w_1 < μ x w) ∧ ∀ (g : Nat) (w' : World), Fresh (World.drew w)
 g w' [Value.slice none 0 0, Value.int IntKind.i64 (0 : Int), Value.bool false] 59 → S w' ∧ ∀ (g_2 : Nat) (w'_2 : World), Fresh w' g_2 w'_2 [Value.slice none 0 0, Value.int
 IntKind.i64 (0 : Int), Value.bool false] 59 → S w'_2 ∧ stOK (Addr.mk g_2 0 none) 0 [Value.slice x_38 x_39 x_40, Value.int IntKind.i64 x_41, Value.bool x_42] w'_2 ∧ ∀ (w' : World), w' =
 setAll (Addr.mk g_2 0 none) 0 [Value.slice x_38 x_39 x_40, Value.int IntKind.i64 x_41, Value.bool x_42] w'_2 → S w' ∧ stOK (Addr.mk g 0 none) 0 [Value.slice x_46 x_47 x_48, Value.int
 IntKind.i64 x_49, Value.bool x_50] w' ∧ ∀ (w'_3 : World), w'_3 = setAll (Addr.mk g 0 none) 0 [Value.slice x_46 x_47 x_48, Value.int IntKind.i64 x_49, Value.bool x_50] w' → ∃ (x_51 : Int),
 World.cell? w'_3 (Addr.add (Addr.mk g_2 0 none) 1) = some (Value.int IntKind.i64 x_51) ∧ ∃ (x_52 : Int), World.cell? w'_3 (Addr.add (Addr.mk g 0 none) 1) = some (Value.int
 IntKind.i64 x_52) ∧ bif !decide (x_51 = x_52) then K (Value.bool false) w'_3 else ∃ (x_53 : Bool), World.cell? w'_3 (Addr.add (Addr.mk g_2 0 none) 2) = some (Value.bool
 x_53) ∧ ∃ (x_54 : Bool), World.cell? w'_3 (Addr.add (Addr.mk g 0 none) 2) = some (Value.bool x_54) ∧ bif !decide (x_53 = x_54) then K (Value.bool false) w'_3 else ∃ (x_55 :
 Option Addr) (x_56 x_57 : Nat), World.cell? w'_3 (Addr.add (Addr.mk g_2 0 none) 0) = some (Value.slice x_55 x_56 x_57) ∧ ∃ (x_58 : Option Addr) (x_59 x_60 : Nat), World.cell? w'_3
 (Addr.add (Addr.mk g 0 none) 0) = some (Value.slice x_58 x_59 x_60) ∧ bif !decide ((↑x_56 : Int) = (↑x_59 : Int)) then K (Value.bool false) w'_3 else ∃ (x_61 : Option Addr)
 (x_62 x_63 : Nat), World.cell? w'_3 (Addr.add (Addr.mk g_2 0 none) 0) = some (Value.slice x_61 x_62 x_63) ∧ ∃ (I_1 : Int → World → Prop) (μ_1 : Int → World → Nat), I_1 (0 : Int) w'_3 ∧ ∀
 (x_64 : Int) (w_1 : World), I_1 x_64 w_1 → bif decide (x_64 < (↑x_62 : Int)) then ∃ (S : World → Prop), S (World.drew w_1) ∧ ∃ (x : Option Addr) (x_65 x_66 : Nat), (∀ (u : World), S u →
 World.cell? u (Addr.add (Addr.mk g_2 0 none) 0) = some (Value.slice x x_65 x_66)) ∧ ∃ (ad : Addr), x = some ad ∧ ((0 : Int) ≤ x_64 ∧ x_64 < (↑x_65 : Int)) ∧ ∃ (x : Bool), (∀ (u :
 World), S u → World.cell? u (Addr.add ad (Int.toNat x_64 * 1)) = some (Value.bool x)) ∧ ∃ (x_67 : Option Addr) (x_68 x_69 : Nat), (∀ (u : World), S u → World.cell? u (Addr.add (Addr.mk g 0
 none) 0) = some (Value.slice x_67 x_68 x_69)) ∧ ∃ (ad : Addr), x_67 = some ad ∧ ((0 : Int) ≤ x_64 ∧ x_64 < (↑x_68 : Int)) ∧ ∃ (x_70 : Bool), (∀ (u : World), S u → World.cell? u
 (Addr.add ad (Int.toNat x_64 * 1)) = some (Value.bool x_70)) ∧ bif !decide (x = x_70) then K (Value.bool false) (World.drew w_1) else I_1 (IntKind.wrap IntKind.i64 (x_64 + (1 :
 Int))) (World.drew w_1) ∧ μ_1 (IntKind.wrap IntKind.i64 (x_64 + (1 : Int))) (World.drew w_1) < μ_1 x_64 w_1 else I (IntKind.wrap IntKind.i64 (x + (1 : Int))) w_1 ∧ μ (IntKind.wrap IntKind.i64 (x + (1 :
 Int))) w_1 < μ x w else ∃ (x : Option Addr) (x_35 x_36 : Nat), World.cell? w (Addr.add (Addr.mk g 0 none) 7) = some (Value.slice x x_35 x_36) ∧ ∃ (I : Int → World → Prop) (μ : Int → World
 → Nat), I (0 : Int) w ∧ ∀ (x : Int) (w : World), I x w → bif decide (x < (↑x_35 : Int)) then ∃ (S : World → Prop), S (World.drew w) ∧ ∃ (x_37 : Option Addr) (x_38 x_39 : Nat), (∀ (u : World),
 S u → World.cell? u (Addr.add (Addr.mk g 0 none) 7) = some (Value.slice x_37 x_38 x_39)) ∧ ∃ (ad : Addr), x_37 = some ad ∧ ((0 : Int) ≤ x ∧ x < (↑x_38 : Int)) ∧ ∃ (x_40 :
 ByteArray), (∀ (u : World), S u → World.cell? u (Addr.add (Addr.add ad (Int.toNat x * 2)) 0) = some (Value.string x_40)) ∧ ∃ (x_41 : Bool), (∀ (u : World), S u → World.cell? u (Addr.add
 (Addr.add ad (Int.toNat x * 2)) 1) = some (Value.bool x_41)) ∧ ∃ (x_42 : Option Addr) (x_43 x_44 : Nat), (∀ (u : World), S u → World.cell? u (Addr.add (Addr.mk g_1 0 none) 7) =
 some (Value.slice x_42 x_43 x_44)) ∧ ∃ (ad : Addr), x_42 = some ad ∧ ((0 : Int) ≤ x ∧ x < (↑x_43 : Int)) ∧ ∃ (x_45 : ByteArray), (∀ (u : World), S u → World.cell? u (Addr.add (Addr.add ad
 (Int.toNat x * 2)) 0) = some (Value.string x_45)) ∧ ∃ (x_46 : Bool), (∀ (u : World), S u → World.cell? u (Addr.add (Addr.add ad (Int.toNat x * 2)) 1) = some (Value.bool x_46)) ∧ bif
 Program.stoodInHeld Tryz.prog 61 || Program.eqGuardType Tryz.prog (Program.depth Tryz.prog) 61 || List.any (Array.toList #[Field.mk "Func" 9 0 false "" "" 0, Field.mk "Distinct" 4 1 false ""
 "" 16]) fun (f : Field) => Field.name f == "_" then False else bif !(ByteArray.toList x_40 == ByteArray.toList x_45 && (decide (x_41 = x_46) && true)) then K (Value.bool false)
 (World.drew w) else I (IntKind.wrap IntKind.i64 (x + (1 : Int))) (World.drew w) ∧ μ (IntKind.wrap IntKind.i64 (x + (1 : Int))) (World.drew w) < μ x w else ∃ (x : Option Addr) (x_37 x_38 : Nat),
 World.cell? w (Addr.add (Addr.mk g 0 none) 8) = some (Value.slice x x_37 x_38) ∧ ∃ (I : Int → World → Prop) (μ : Int → World → Nat), I (0 : Int) w ∧ ∀ (x : Int) (w : World), I x w → bif
 decide (x < (↑x_37 : Int)) then ∃ (S : World → Prop), S (World.drew w) ∧ ∃ (x_39 : Option Addr) (x_40 x_41 : Nat), (∀ (u : World), S u → World.cell? u (Addr.add (Addr.mk g 0 none) 8) =
 some (Value.slice x_39 x_40 x_41)) ∧ ∃ (ad : Addr), x_39 = some ad ∧ ((0 : Int) ≤ x ∧ x < (↑x_40 : Int)) ∧ ∃ (x_42 : Int), (∀ (u : World), S u → World.cell? u (Addr.add (Addr.add ad
 (Int.toNat x * 5)) 0) = some (Value.int IntKind.u8 x_42)) ∧ ∃ (x_43 : Int), (∀ (u : World), S u → World.cell? u (Addr.add (Addr.add ad (Int.toNat x * 5)) 1) = some (Value.int IntKind.i64
 x_43)) ∧ ∃ (x_44 : Int), (∀ (u : World), S u → World.cell? u (Addr.add (Addr.add ad (Int.toNat x * 5)) 2) = some (Value.int IntKind.i64 x_44)) ∧ ∃ (x_45 : Int), (∀ (u : World), S u → World.cell?
 u (Addr.add (Addr.add ad (Int.toNat x * 5)) 3) = some (Value.int IntKind.i64 x_45)) ∧ ∃ (x_46 : Int), (∀ (u : World), S u → World.cell? u (Addr.add (Addr.add ad (Int.toNat x * 5)) 4) =
 some (Value.int IntKind.i64 x_46)) ∧ ∃ (x_47 : Option Addr) (x_48 x_49 : Nat), (∀ (u : World), S u → World.cell? u (Addr.add (Addr.mk g_1 0 none) 8) = some (Value.slice x_47 x_48
 x_49)) ∧ ∃ (ad : Addr), x_47 = some ad ∧ ((0 : Int) ≤ x ∧ x < (↑x_48 : Int)) ∧ ∃ (x_50 : Int), (∀ (u : World), S u → World.cell? u (Addr.add (Addr.add ad (Int.toNat x * 5)) 0) = some
 (Value.int IntKind.u8 x_50)) ∧ ∃ (x_51 : Int), (∀ (u : World), S u → World.cell? u (Addr.add (Addr.add ad (Int.toNat x * 5)) 1) = some (Value.int IntKind.i64 x_51)) ∧ ∃ (x_52 : Int), (∀ (u :
 World), S u → World.cell? u (Addr.add (Addr.add ad (Int.toNat x * 5)) 2) = some (Value.int IntKind.i64 x_52)) ∧ ∃ (x_53 : Int), (∀ (u : World), S u → World.cell? u (Addr.add (Addr.add ad
 (Int.toNat x * 5)) 3) = some (Value.int IntKind.i64 x_53)) ∧ ∃ (x_54 : Int), (∀ (u : World), S u → World.cell? u (Addr.add (Addr.add ad (Int.toNat x * 5)) 4) = some (Value.int IntKind.i64
 x_54)) ∧ bif Program.stoodInHeld Tryz.prog 46 || Program.eqGuardType Tryz.prog (Program.depth Tryz.prog) 46 || List.any (Array.toList #[Field.mk "Op" 44 0 false "" "" 0, Field.mk "A" 3 1
 false "" "" 8, Field.mk "B" 3 2 false "" "" 16, Field.mk "C" 3 3 false "" "" 24, Field.mk "D" 3 4 false "" "" 32]) fun (f : Field) => Field.name f == "_" then False else bif
 !(decide (x_42 = x_50) && (decide (x_43 = x_51) && (decide (x_44 = x_52) && (decide (x_45 = x_53) && (decide (x_46 = x_54) && true))))) then K
 (Value.bool false) (World.drew w) else I (IntKind.wrap IntKind.i64 (x + (1 : Int))) (World.drew w) ∧ μ (IntKind.wrap IntKind.i64 (x + (1 : Int))) (World.drew w) < μ x w else K (Value.bool
 true) w
theorem cardindexlaw15_Same.calls (ok : Okay Tryz.prog) {a0 : Int} {a1 : Int} {a2 : Int} {a3_A : Option Addr} {a3_n : Nat} {a3_c : Nat} {a4_A : Option Addr} {a4_n : Nat} {a4_c : Nat} {a5_A : Option Addr} {a5_n : Nat} {a5_c : Nat} {a6_A : Option Addr} {a6_n : Nat} {a6_c : Nat} {a7_A : Option Addr} {a7_n : Nat} {a7_c : Nat} {a8_A : Option Addr} {a8_n : Nat} {a8_c : Nat} {b0 : Int} {b1 : Int} {b2 : Int} {b3_A : Option Addr} {b3_n : Nat} {b3_c : Nat} {b4_A : Option Addr} {b4_n : Nat} {b4_c : Nat} {b5_A : Option Addr} {b5_n : Nat} {b5_c : Nat} {b6_A : Option Addr} {b6_n : Nat} {b6_c : Nat} {b7_A : Option Addr} {b7_n : Nat} {b7_c : Nat} {b8_A : Option Addr} {b8_n : Nat} {b8_c : Nat} {w : World} {K : Value → World → Prop} (h : cardindexlaw15_Same.W a0 a1 a2 a3_A a3_n a3_c a4_A a4_n a4_c a5_A a5_n a5_c a6_A a6_n a6_c a7_A a7_n a7_c a8_A a8_n a8_c b0 b1 b2 b3_A b3_n b3_c b4_A b4_n b4_c b5_A b5_n b5_c b6_A b6_n b6_c b7_A b7_n b7_c b8_A b8_n b8_c w K) : CallsV Tryz.prog 11 #[.agg #[.int .i64 a0, .int .i64 a1, .int .i64 a2, .slice a3_A a3_n a3_c, .slice a4_A a4_n a4_c, .slice a5_A a5_n a5_c, .slice a6_A a6_n a6_c, .slice a7_A a7_n a7_c, .slice a8_A a8_n a8_c], .agg #[.int .i64 b0, .int .i64 b1, .int .i64 b2, .slice b3_A b3_n b3_c, .slice b4_A b4_n b4_c, .slice b5_A b5_n b5_c, .slice b6_A b6_n b6_c, .slice b7_A b7_n b7_c, .slice b8_A b8_n b8_c]] w K :=
  fnW_calls ok Tryz.func11 (an := (.named (.seq .auto (.seq .auto (.seq (.seq .auto (.block (.loop [(88, .one (.int .i64))] .auto))) (.seq (.seq .auto (.block (.loop [(106, .one (.int .i64))] .auto))) (.seq (.seq .auto (.block (.loop [(124, .one (.int .i64))] (.seq .auto (.seq .auto (.seq (.block (.seq .auto (.seq .auto (.seq .auto (.seq .auto (.block (.loop [(161, .one (.int .i64))] .auto))))))) .auto)))))) (.seq (.seq .auto (.block (.loop [(180, .one (.int .i64))] .auto))) (.seq (.seq .auto (.block (.loop [(198, .one (.int .i64))] .auto))) .auto))))))))) (args := [.agg #[.int .i64 a0, .int .i64 a1, .int .i64 a2, .slice a3_A a3_n a3_c, .slice a4_A a4_n a4_c, .slice a5_A a5_n a5_c, .slice a6_A a6_n a6_c, .slice a7_A a7_n a7_c, .slice a8_A a8_n a8_c], .agg #[.int .i64 b0, .int .i64 b1, .int .i64 b2, .slice b3_A b3_n b3_c, .slice b4_A b4_n b4_c, .slice b5_A b5_n b5_c, .slice b6_A b6_n b6_c, .slice b7_A b7_n b7_c, .slice b8_A b8_n b8_c]]) (Eq.mp (by kernel_rfl) h)
noncomputable def cardindexkit_SameTexts.W : Option Addr → Nat → Nat → Option Addr → Nat → Nat → World → (Value → World → Prop) → Prop := fun (a_A : Option Addr) (a_n a_c : Nat) (b_A : Option Addr)
 (b_n b_c : Nat) (w : World) (K : Value → World → Prop) => bif !decide ((↑a_n : Int) = (↑b_n : Int)) then K (Value.bool false) w else ∃ (I : Int → World → Prop) (μ : Int → World → Nat), I
 (0 : Int) w ∧ ∀ (x : Int) (w : World), I x w → bif decide (x < (↑a_n : Int)) then ∃ (ad : Addr), a_A = some ad ∧ ((0 : Int) ≤ x ∧ x < (↑a_n : Int)) ∧ ∃ (S : World → Prop), S
 (World.drew w) ∧ ∃ (x_1 : ByteArray), (∀ (u : World), S u → World.cell? u (Addr.add ad (Int.toNat x * 1)) = some (Value.string x_1)) ∧ ∃ (ad : Addr), b_A = some ad ∧ ((0 : Int) ≤ x ∧ x <
 (↑b_n : Int)) ∧ ∃ (x_2 : ByteArray), (∀ (u : World), S u → World.cell? u (Addr.add ad (Int.toNat x * 1)) = some (Value.string x_2)) ∧ bif !ByteArray.toList x_1 == ByteArray.toList x_2 then K
 (Value.bool false) (World.drew w) else I (IntKind.wrap IntKind.i64 (x + (1 : Int))) (World.drew w) ∧ μ (IntKind.wrap IntKind.i64 (x + (1 : Int))) (World.drew w) < μ x w else K (Value.bool
 true) w
theorem cardindexkit_SameTexts.calls (ok : Okay Tryz.prog) {a_A : Option Addr} {a_n : Nat} {a_c : Nat} {b_A : Option Addr} {b_n : Nat} {b_c : Nat} {w : World} {K : Value → World → Prop} (h : cardindexkit_SameTexts.W a_A a_n a_c b_A b_n b_c w K) : CallsV Tryz.prog 44 #[.slice a_A a_n a_c, .slice b_A b_n b_c] w K :=
  fnW_calls ok Tryz.func44 (an := (.named (.seq .auto (.seq .auto (.seq (.seq .auto (.block (.loop [(5, .one (.int .i64))] .auto))) .auto))))) (args := [.slice a_A a_n a_c, .slice b_A b_n b_c]) (Eq.mp (by kernel_rfl) h)
end Go.Proofs.YtaifphjenebgoaaGreatDoor
set_option linter.unusedVariables false
set_option linter.unusedSimpArgs false
namespace Go.Proofs.YtaifphjenebgoaaGreatDoor
open Go Go.Sx R1 K15
def KI : Kd Int := Kd.int .i64
theorem KI_pos : 0 < KI.size := by decide
theorem KBo_pos : 0 < Kd.bool.size := by decide
theorem ints_fresh {w w' : World} {g : Nat} {e : TypeId} {Ω : Nat → Prop} {ns : List Int} (f : Fresh w g w' (ns.map (Value.int .i64)) e) (hΩ : ¬ Ω g) (hl : ns.length ≤ 100) : Imm KI Ω w' (some ⟨g, 0, none⟩) ns :=
  f.imm hΩ KI_pos (by simp [KI, Kd.int]) (by simp only [maxLen]; omega) (fun i a h => by
    show ((ns.map (Value.int .i64)).drop (i * 1)).take 1 = [.int .i64 a]
    rw [Nat.mul_one]
    exact part1 (by rw [List.getElem?_map, h]; rfl))
theorem bools_fresh {w w' : World} {g : Nat} {e : TypeId} {Ω : Nat → Prop} {ns : List Bool} (f : Fresh w g w' (ns.map Value.bool) e) (hΩ : ¬ Ω g) (hl : ns.length ≤ 100) : Imm Kd.bool Ω w' (some ⟨g, 0, none⟩) ns :=
  f.imm hΩ KBo_pos (by simp [Kd.bool]) (by simp only [maxLen]; omega) (fun i a h => by
    show ((ns.map Value.bool).drop (i * 1)).take 1 = [.bool a]
    rw [Nat.mul_one]
    exact part1 (by rw [List.getElem?_map, h]; rfl))
structure Wr (w : World) (g : Nat) (A : Option Addr) (c : Nat) (l : List UInt8) : Prop where
  own : OwnB w A c l
  blk : Blk w g [.slice A l.length c]
  off : ¬ ownB A g
abbrev WO (g : Nat) (A : Option Addr) : Nat → Prop := fun k => k = g ∨ ownB A k
structure WG (g : Nat) (A A' : Option Addr) (w w' : World) : Prop where
  fr : Fr (WO g A) w w'
  sub : ∀ k, ownB A' k → ownB A k ∨ w.heap.size ≤ k
theorem WG.trans {g : Nat} {A B C : Option Addr} {a b c : World} (h : WG g A B a b) (h' : WG g B C b c) : WG g A C a c :=
  ⟨h.fr.trans h'.fr (fun _ _ h => h) (fun k hk hb => hb.elim .inl (fun hB => (h.sub k hB).elim .inr (fun hge => absurd hk (Nat.not_lt.2 hge)))),
    fun k hk => (h'.sub k hk).elim (fun h1 => h.sub k h1) (fun h1 => .inr (Nat.le_trans h.fr.size h1))⟩
theorem WG.ofExt {g : Nat} {A : Option Addr} {w w' : World} (e : Ext w w') : WG g A A w w' := ⟨e.mono (fun _ _ h => h.elim), fun _ h => .inl h⟩
theorem WG.refl (g : Nat) (A : Option Addr) (w : World) : WG g A A w w := WG.ofExt (.refl _ _)
section
variable {w w' : World} {g : Nat} {A A' : Option Addr} {c c' : Nat} {l l' : List UInt8}
theorem Wr.ext (h : Wr w g A c l) (e : Ext w w') : Wr w' g A c l := ⟨h.own.keep e (fun _ _ h => h), h.blk.ext e, h.off⟩
theorem Wr.lt (h : Wr w g A c l) : ∀ k, WO g A k → k < w.heap.size := fun k hk => hk.elim (fun e => e ▸ h.blk.lt) (fun hA => Own.lt h.own k hA)
theorem Wr.push (h : Wr w g A c l) (ho : OwnB w' A' c' l') (hg : Grew A A' w w') :
    stOK ((⟨g, 0, none⟩ : Addr).add 0) 0 [.slice A' l'.length c'] w' ∧ ∀ u, u = setAll ((⟨g, 0, none⟩ : Addr).add 0) 0 [.slice A' l'.length c'] w' → Wr u g A' c' l' ∧ WG g A A' w u := by
  have b' := h.blk.keep hg.fr h.off
  have off' : ¬ ownB A' g := fun hk => (hg.sub g hk).elim h.off (fun hge => absurd h.blk.lt (Nat.not_lt.2 hge))
  refine ⟨cellOK b' (by simp), fun u hu => ?_⟩
  obtain ⟨b2, q⟩ := cellSet b' hu
  exact ⟨⟨ho.keep q (fun k hk e => off' (e ▸ hk)), b2, off'⟩, hg.fr.trans q (fun _ _ h => .inr h) (fun _ _ h => .inl h), hg.sub⟩
theorem WG.imm {α : Type} {K : Kd α} {B : Option Addr} {xs : List α} (hg : WG g A A' w w') (hz : 0 < K.size) (h : Imm K (WO g A) w B xs) : Imm K NoB w' B xs :=
  h.keep hz (hg.fr.step (fun _ _ h => h) (fun _ _ h => h.elim))
theorem wput_spec (h : Wr w g A c l) {B : Option Addr} {d : Nat} {ns : List Int} (hB : Imm KI (WO g A) w B ns) (hn : ∀ n ∈ ns, 0 ≤ n ∧ n < 9223372036854775808) (hl : l.length + 10 * ns.length + 10 ≤ 140737488355328) :
    CallsV Tryz.prog 25 #[.pointer (some ⟨g, 0, none⟩), .slice B ns.length d] w fun r w' => r = .tuple #[] ∧ ∃ A' c', Wr w' g A' c' (l ++ ns.flatMap K15.eI) ∧ WG g A A' w w' := by
  refine code_writer_put.calls okay ?_
  unfold code_writer_put.W
  refine ⟨fun x u => ∃ j : Nat, j ≤ ns.length ∧ x = (j : Int) ∧ ∃ A1 c1, Wr u g A1 c1 (l ++ (ns.take j).flatMap K15.eI) ∧ WG g A A1 w u, fun x _ => ((ns.length : Int) - x).toNat, ⟨0, by omega, rfl, A, c, by simpa using h, .refl _ _ _⟩, ?_⟩
  rintro _ u ⟨j, hj, rfl, A1, c1, h1, hg⟩
  refine brd (fun hlt => ?_) (fun hge => ?_)
  · have hjl : j < ns.length := by omega
    obtain ⟨ad, hA, cs, hrep, hc⟩ := (hg.imm KI_pos hB).get1 hjl
    have hcs : cs = [.int .i64 ns[j]] := hrep
    subst hcs
    have hnj := hn _ (List.getElem_mem hjl)
    have hlen := flatB (f := K15.eI) (M := 10) (ns.take j) (fun v hv => eI_len (hn v (List.mem_of_mem_take hv)))
    rw [List.length_take, Nat.min_eq_left hj] at hlen
    refine ⟨ad, hA, ⟨by omega, by omega⟩, _, hc 0 _ rfl, _, rfl, _, _, _, h1.blk.cell rfl, ?_⟩
    rw [wu _ (by omega) (by omega), show ns[j] = ((ns[j].toNat : Nat) : Int) by omega]
    refine (Uint_spec h1.own ns[j].toNat (by omega) (by rw [List.length_append]; omega)).mono ?_
    rintro _ u1 ⟨A2, c2, rfl, ho, hg2, _⟩
    obtain ⟨s1, s2⟩ := h1.push ho hg2
    refine ⟨_, _, _, rfl, _, rfl, s1, fun v hv => ?_⟩
    obtain ⟨q1, q2⟩ := s2 v hv
    rw [wi ((j : Int) + 1) (by omega) (by omega)]
    refine ⟨⟨j + 1, by omega, rfl, A2, c2, ?_, hg.trans q2⟩, by dsimp only; omega⟩
    rw [flatS hjl, ← List.append_assoc]
    exact q1
  · obtain rfl : j = ns.length := by omega
    rw [List.take_length] at h1
    exact ⟨rfl, A1, c1, h1, hg⟩
theorem wflag_spec (h : Wr w g A c l) {B : Option Addr} {d : Nat} {bs : List Bool} (hB : Imm Kd.bool (WO g A) w B bs) (hl : l.length + 10 * bs.length + 30 ≤ 140737488355328) :
    CallsV Tryz.prog 29 #[.pointer (some ⟨g, 0, none⟩), .slice B bs.length d] w fun r w' => r = .tuple #[] ∧ ∃ A' c', Wr w' g A' c' (l ++ bs.flatMap eF) ∧ WG g A A' w w' := by
  refine code_writer_flag.calls okay ?_
  unfold code_writer_flag.W
  refine ⟨fun x u => ∃ j : Nat, j ≤ bs.length ∧ x = (j : Int) ∧ ∃ A1 c1, Wr u g A1 c1 (l ++ (bs.take j).flatMap eF) ∧ WG g A A1 w u, fun x _ => ((bs.length : Int) - x).toNat, ⟨0, by omega, rfl, A, c, by simpa using h, .refl _ _ _⟩, ?_⟩
  rintro _ u ⟨j, hj, rfl, A1, c1, h1, hg⟩
  refine brd (fun hlt => ?_) (fun hge => ?_)
  · have hjl : j < bs.length := by omega
    obtain ⟨ad, hA, cs, hrep, hc⟩ := (hg.imm KBo_pos hB).get1 hjl
    have hcs : cs = [.bool bs[j]] := hrep
    subst hcs
    have hlen := flatB (f := eF) (M := 10) (bs.take j) (fun v hv => eF_len v)
    rw [List.length_take, Nat.min_eq_left hj] at hlen
    have step : ∀ (n : Int) (g3 : Nat) (u1 : World), (0 ≤ n ∧ n < 9223372036854775808) → eF bs[j] = K15.eI n → Fresh u g3 u1 ([n].map (Value.int .i64)) 3 →
        CallsV Tryz.prog 25 #[.pointer (some ⟨g, 0, none⟩), .slice (some ⟨g3, 0, none⟩) 1 1] u1 fun v v' => v = .tuple #[] ∧ (∃ j' : Nat, j' ≤ bs.length ∧ IntKind.i64.wrap ((j : Int) + 1) = (j' : Int) ∧ ∃ A1 c1, Wr v' g A1 c1 (l ++ (bs.take j').flatMap eF) ∧ WG g A A1 w v') ∧
          ((bs.length : Int) - IntKind.i64.wrap ((j : Int) + 1)).toNat < ((bs.length : Int) - (j : Int)).toNat := fun n g3 u1 hn he f3 => by
      have hge3 := f3.ge
      have hi : Imm KI (WO g A1) u1 (some ⟨g3, 0, none⟩) [n] := ints_fresh f3 (fun h => by have := h1.lt _ h; omega) (by simp)
      refine (wput_spec (h1.ext f3.ext) (ns := [n]) hi (fun m hm => by simp at hm; subst hm; exact hn) (by rw [List.length_append]; simp only [List.length_cons, List.length_nil]; omega)).mono ?_
      rintro _ v ⟨rfl, A2, c2, h2, hg2⟩
      rw [wi ((j : Int) + 1) (by omega) (by omega)]
      refine ⟨rfl, ⟨j + 1, by omega, rfl, A2, c2, ?_, hg.trans ((WG.ofExt f3.ext).trans hg2)⟩, by omega⟩
      rw [flatS hjl, ← List.append_assoc, he]
      simpa using h2
    refine ⟨ad, hA, ⟨by omega, by omega⟩, _, hc 0 _ rfl, br (fun hb => ?_) (fun hb => ?_)⟩
    · exact fun g3 u1 f3 => step 1 g3 u1 (by decide) (by rw [hb]; rfl) f3
    · exact fun g3 u1 f3 => step 0 g3 u1 (by decide) (by rw [hb]; rfl) f3
  · obtain rfl : j = bs.length := by omega
    rw [List.take_length] at h1
    exact ⟨rfl, A1, c1, h1, hg⟩
theorem wtext_spec (h : Wr w g A c l) (s : ByteArray) (hl : l.length + s.size + 10 ≤ 140737488355328) :
    CallsV Tryz.prog 26 #[.pointer (some ⟨g, 0, none⟩), .string s] w fun r w' => r = .tuple #[] ∧ ∃ A' c', Wr w' g A' c' (l ++ eS s) ∧ WG g A A' w w' := by
  refine code_writer_text.calls okay ?_
  unfold code_writer_text.W
  refine ⟨_, rfl, _, _, _, h.blk.cell rfl, ?_⟩
  obtain ⟨B, d, w1, hr, ho, e, hn, _⟩ := to_bytes bt w s (by simp only [maxLen]; omega)
  have h1 := h.ext e
  refine ⟨B, _, d, w1, hr, ?_⟩
  refine (Blob_spec h1.own (ho.imm (Ω := ownB A) (fun k hk hA => absurd (h.lt k (.inr hA)) (Nat.not_lt.2 (hn k hk)))) (by rw [sb_length]; omega)).mono ?_
  rintro _ w2 ⟨A', c', rfl, ho2, hg⟩
  obtain ⟨s1, s2⟩ := h1.push ho2 hg
  refine ⟨_, _, _, rfl, _, rfl, s1, fun u hu => ?_⟩
  obtain ⟨q1, q2⟩ := s2 u hu
  exact ⟨rfl, _, _, q1, (WG.ofExt e).trans q2⟩
end
end Go.Proofs.YtaifphjenebgoaaGreatDoor
set_option linter.unusedVariables false
namespace Go.Proofs.YtaifphjenebgoaaGreatDoor
open Go Go.Sx R1
theorem opens_V : Opens Tryz.prog 54 KV good := by
  intro H enc w fuel cs x hx
  obtain ⟨hl, hf⟩ := opens_fields (by kernel_rfl) hx
  obtain ⟨k, hk, gk⟩ := hf 0 (ft := 52) (off := 0) (K := Kd.int .u8) (by kernel_rfl) (by kernel_rfl) (opens_int (by kernel_rfl))
  obtain ⟨n, hn, gn⟩ := hf 1 (ft := 2) (off := 1) (K := Kd.int .i64) (by kernel_rfl) (by kernel_rfl) (opens_int (by kernel_rfl))
  obtain ⟨s, hs, gs⟩ := hf 2 (ft := 9) (off := 2) (K := Kd.str) (by kernel_rfl) (by kernel_rfl) (opens_str (by kernel_rfl))
  have hl3 : cs.length = 3 := hl.trans (by kernel_rfl)
  match cs, hl3 with
  | [a, b, c], _ =>
    have hk : [a] = [.int .u8 k] := hk
    have hn : [b] = [.int .i64 n] := hn
    have hs : [c] = [.string s] := hs
    obtain ⟨m, rfl, hm⟩ := u8_nat gk
    exact ⟨⟨(m : Int), n, s⟩, by cases hk; cases hn; cases hs; rfl, ⟨by dsimp only; omega, by dsimp only; omega⟩, i64_range gn, gs⟩
end Go.Proofs.YtaifphjenebgoaaGreatDoor
set_option linter.unusedVariables false
set_option linter.unusedSimpArgs false
namespace Go.Proofs.YtaifphjenebgoaaGreatDoor
open Go Go.Sx R1 K15
def isI (x : Int) : Prop := -9223372036854775808 ≤ x ∧ x ≤ 9223372036854775807
def gCur (c : Cur) : Prop := c.name.size ≤ maxLen
def gSrt (s : Srt) : Prop := s.desc.length ≤ maxLen ∧ isI s.cols
def gTot (t : Tot) : Prop := t.fn.size ≤ maxLen
def gIns (i : Ins) : Prop := (0 ≤ i.op ∧ i.op < 256) ∧ isI i.a ∧ isI i.b ∧ isI i.c ∧ isI i.d
theorem opens_Cur : Opens Tryz.prog 56 KCur gCur := by
  intro H enc w fuel cs x hx
  obtain ⟨hl, hf⟩ := opens_fields (by kernel_rfl) hx
  obtain ⟨a, ha, g1⟩ := hf 0 (ft := 9) (off := 0) (K := Kd.str) (by kernel_rfl) (by kernel_rfl) (opens_str (by kernel_rfl))
  obtain ⟨b, hb, _⟩ := hf 1 (ft := 4) (off := 1) (K := Kd.bool) (by kernel_rfl) (by kernel_rfl) (opens_bool (by kernel_rfl))
  obtain ⟨c, hc, _⟩ := hf 2 (ft := 4) (off := 2) (K := Kd.bool) (by kernel_rfl) (by kernel_rfl) (opens_bool (by kernel_rfl))
  have hl3 : cs.length = 3 := hl.trans (by kernel_rfl)
  match cs, hl3 with
  | [x, y, z], _ =>
    have ha : [x] = [.string a] := ha
    have hb : [y] = [.bool b] := hb
    have hc : [z] = [.bool c] := hc
    exact ⟨⟨a, b, c⟩, by cases ha; cases hb; cases hc; rfl, g1⟩
theorem opens_Tot : Opens Tryz.prog 61 KTot gTot := by
  intro H enc w fuel cs x hx
  obtain ⟨hl, hf⟩ := opens_fields (by kernel_rfl) hx
  obtain ⟨a, ha, g1⟩ := hf 0 (ft := 9) (off := 0) (K := Kd.str) (by kernel_rfl) (by kernel_rfl) (opens_str (by kernel_rfl))
  obtain ⟨b, hb, _⟩ := hf 1 (ft := 4) (off := 1) (K := Kd.bool) (by kernel_rfl) (by kernel_rfl) (opens_bool (by kernel_rfl))
  have hl3 : cs.length = 2 := hl.trans (by kernel_rfl)
  match cs, hl3 with
  | [x, y], _ =>
    have ha : [x] = [.string a] := ha
    have hb : [y] = [.bool b] := hb
    exact ⟨⟨a, b⟩, by cases ha; cases hb; rfl, g1⟩
theorem opens_Srt : Opens Tryz.prog 59 KSrt gSrt := by
  intro H enc w fuel cs x hx
  obtain ⟨hl, hf⟩ := opens_fields (by kernel_rfl) hx
  obtain ⟨a, ha, g1, _⟩ := hf 0 (ft := 57) (off := 0) (K := Kd.slice Kd.bool (by decide)) (by kernel_rfl) (by kernel_rfl) (opens_slice (by kernel_rfl) (by kernel_rfl) (by decide) (opens_bool (t := 4) (by kernel_rfl)))
  obtain ⟨b, hb, g2⟩ := hf 1 (ft := 3) (off := 1) (K := Kd.int .i64) (by kernel_rfl) (by kernel_rfl) (opens_int (by kernel_rfl))
  obtain ⟨c, hc, _⟩ := hf 2 (ft := 4) (off := 2) (K := Kd.bool) (by kernel_rfl) (by kernel_rfl) (opens_bool (by kernel_rfl))
  have hl3 : cs.length = 3 := hl.trans (by kernel_rfl)
  match cs, hl3 with
  | [x, y, z], _ =>
    obtain ⟨A, d, ha, hd, hi⟩ := ha
    have ha : [x] = [.slice A a.length d] := ha
    have hb : [y] = [.int .i64 b] := hb
    have hc : [z] = [.bool c] := hc
    exact ⟨⟨a, b, c⟩, ⟨A, d, by cases ha; cases hb; cases hc; rfl, hd, hi⟩, g1, i64_range g2⟩
theorem opens_Ins : Opens Tryz.prog 46 KIns gIns := by
  intro H enc w fuel cs x hx
  obtain ⟨hl, hf⟩ := opens_fields (by kernel_rfl) hx
  obtain ⟨a, ha, g1⟩ := hf 0 (ft := 44) (off := 0) (K := Kd.int .u8) (by kernel_rfl) (by kernel_rfl) (opens_int (by kernel_rfl))
  obtain ⟨b, hb, g2⟩ := hf 1 (ft := 3) (off := 1) (K := Kd.int .i64) (by kernel_rfl) (by kernel_rfl) (opens_int (by kernel_rfl))
  obtain ⟨c, hc, g3⟩ := hf 2 (ft := 3) (off := 2) (K := Kd.int .i64) (by kernel_rfl) (by kernel_rfl) (opens_int (by kernel_rfl))
  obtain ⟨d, hd, g4⟩ := hf 3 (ft := 3) (off := 3) (K := Kd.int .i64) (by kernel_rfl) (by kernel_rfl) (opens_int (by kernel_rfl))
  obtain ⟨e, he, g5⟩ := hf 4 (ft := 3) (off := 4) (K := Kd.int .i64) (by kernel_rfl) (by kernel_rfl) (opens_int (by kernel_rfl))
  have hl3 : cs.length = 5 := hl.trans (by kernel_rfl)
  match cs, hl3 with
  | [x, y, z, u, v], _ =>
    have ha : [x] = [.int .u8 a] := ha
    have hb : [y] = [.int .i64 b] := hb
    have hc : [z] = [.int .i64 c] := hc
    have hd : [u] = [.int .i64 d] := hd
    have he : [v] = [.int .i64 e] := he
    obtain ⟨m, rfl, hm⟩ := u8_nat g1
    exact ⟨⟨(m : Int), b, c, d, e⟩, by cases ha; cases hb; cases hc; cases hd; cases he; rfl, ⟨by dsimp only; omega, by dsimp only; omega⟩, i64_range g2, i64_range g3, i64_range g4, i64_range g5⟩
structure gProg (p : Prog) : Prop where
  ver : isI p.ver
  regs : isI p.regs
  binds : isI p.binds
  names : ∀ s ∈ p.names, s.size ≤ maxLen
  consts : ∀ v ∈ p.consts, good v
  curs : ∀ c ∈ p.curs, gCur c
  sorts : ∀ s ∈ p.sorts, gSrt s
  tots : ∀ t ∈ p.tots, gTot t
  code : ∀ i ∈ p.code, gIns i
theorem okWide_struct {P : Program} {w : World} {r : Reach} {base : Nat} {t : TypeId} {fs : Array Field} {v : Value} (ht : P.underlying t = some (.struct fs)) (h : Value.okWide P w r base t v) : ∃ cs, v = .agg cs ∧ cs.size = P.cellsOf t := by
  unfold Value.okWide at h
  rw [ht] at h
  cases v <;> simp at h
  exact ⟨_, rfl, h.1⟩
set_option maxRecDepth 10000 in
theorem arg_prog {H : Type} {enc : TypeId × Value → H} {W : World} {r : Reach} {base : Nat} {v : Value} {d : DataW H} {ps : List MemPlace}
    (hval : Value.okWide Tryz.prog W r base 29 v) (h : DataW.Trod enc Tryz.prog W 0 (fun _ => true) true 29 v d ps) : ∃ p a, v = pagg p a ∧ PIm W p a ∧ gProg p := by
  obtain ⟨arr, rfl, hs⟩ := okWide_struct (fs := sfs Tryz.prog 29) (by kernel_rfl) hval
  obtain ⟨fuel, hf⟩ := h
  obtain ⟨hl, hf⟩ := opens_fields (by kernel_rfl) hf
  obtain ⟨ver, h0, g0⟩ := hf 0 (ft := 3) (off := 0) (K := Kd.int .i64) (by kernel_rfl) (by kernel_rfl) (opens_int (by kernel_rfl))
  obtain ⟨regs, h1, g1⟩ := hf 1 (ft := 3) (off := 1) (K := Kd.int .i64) (by kernel_rfl) (by kernel_rfl) (opens_int (by kernel_rfl))
  obtain ⟨binds, h2, g2⟩ := hf 2 (ft := 3) (off := 2) (K := Kd.int .i64) (by kernel_rfl) (by kernel_rfl) (opens_int (by kernel_rfl))
  obtain ⟨names, ⟨A3, c3, h3, k3, i3⟩, m3, g3⟩ := hf 3 (ft := 22) (off := 3) (K := Kd.slice Kd.str KStr_pos) (by kernel_rfl) (by kernel_rfl) (opens_slice (by kernel_rfl) (by kernel_rfl) KStr_pos (opens_str (t := 9) (by kernel_rfl)))
  obtain ⟨consts, ⟨A4, c4, h4, k4, i4⟩, m4, g4⟩ := hf 4 (ft := 23) (off := 4) (K := Kd.slice KV KV_pos) (by kernel_rfl) (by kernel_rfl) (opens_slice (by kernel_rfl) (by kernel_rfl) KV_pos opens_V)
  obtain ⟨curs, ⟨A5, c5, h5, k5, i5⟩, m5, g5⟩ := hf 5 (ft := 24) (off := 5) (K := Kd.slice KCur KCur_pos) (by kernel_rfl) (by kernel_rfl) (opens_slice (by kernel_rfl) (by kernel_rfl) KCur_pos opens_Cur)
  obtain ⟨sorts, ⟨A6, c6, h6, k6, i6⟩, m6, g6⟩ := hf 6 (ft := 25) (off := 6) (K := Kd.slice KSrt KSrt_pos) (by kernel_rfl) (by kernel_rfl) (opens_slice (by kernel_rfl) (by kernel_rfl) KSrt_pos opens_Srt)
  obtain ⟨tots, ⟨A7, c7, h7, k7, i7⟩, m7, g7⟩ := hf 7 (ft := 26) (off := 7) (K := Kd.slice KTot KTot_pos) (by kernel_rfl) (by kernel_rfl) (opens_slice (by kernel_rfl) (by kernel_rfl) KTot_pos opens_Tot)
  obtain ⟨code, ⟨A8, c8, h8, k8, i8⟩, m8, g8⟩ := hf 8 (ft := 27) (off := 8) (K := Kd.slice KIns KIns_pos) (by kernel_rfl) (by kernel_rfl) (opens_slice (by kernel_rfl) (by kernel_rfl) KIns_pos opens_Ins)
  have hl9 : arr.size = 9 := hs.trans (by kernel_rfl)
  obtain ⟨cs⟩ := arr
  have hl9 : cs.length = 9 := hl9
  match cs, hl9 with
  | [x0, x1, x2, x3, x4, x5, x6, x7, x8], _ =>
    have h0 : [x0] = [.int .i64 ver] := h0
    have h1 : [x1] = [.int .i64 regs] := h1
    have h2 : [x2] = [.int .i64 binds] := h2
    have h3 : [x3] = [.slice A3 names.length c3] := h3
    have h4 : [x4] = [.slice A4 consts.length c4] := h4
    have h5 : [x5] = [.slice A5 curs.length c5] := h5
    have h6 : [x6] = [.slice A6 sorts.length c6] := h6
    have h7 : [x7] = [.slice A7 tots.length c7] := h7
    have h8 : [x8] = [.slice A8 code.length c8] := h8
    exact ⟨⟨ver, regs, binds, names, consts, curs, sorts, tots, code⟩, ⟨A3, c3, A4, c4, A5, c5, A6, c6, A7, c7, A8, c8⟩, by cases h0; cases h1; cases h2; cases h3; cases h4; cases h5; cases h6; cases h7; cases h8; rfl,
      ⟨i3, i4, i5, i6, i7, i8, m3, m4, m5, m6, m7, m8, k8⟩, ⟨i64_range g0, i64_range g1, i64_range g2, g3, g4, g5, g6, g7, g8⟩⟩
end Go.Proofs.YtaifphjenebgoaaGreatDoor
set_option linter.unusedVariables false
set_option linter.unusedSimpArgs false
namespace Go.Proofs.YtaifphjenebgoaaGreatDoor
open Go Go.Sx R1 K15
def constE (v : V) : List UInt8 := (putR [v]).1
theorem constE_len (v : V) : (constE v).length ≤ 1048576 := by
  unfold constE putR
  split
  · simp
  · split
    · simp
    · dsimp only; omega
structure WS (wb u : World) (g : Nat) (A : Option Addr) (c : Nat) (l : List UInt8) : Prop where
  wr : Wr u g A c l
  ext : Ext wb u
  new : New wb A
  ge : wb.heap.size ≤ g
section
variable {wb u v : World} {g : Nat} {A A' : Option Addr} {c c' : Nat} {l l' : List UInt8}
theorem WS.step (h : WS wb u g A c l) (h' : Wr v g A' c' l') (q : WG g A A' u v) : WS wb v g A' c' l' :=
  ⟨h', h.ext.trans q.fr (fun _ _ h => h) (fun k hk hb => hb.elim (fun e => by have := h.ge; omega) (fun hA => absurd hk (Nat.not_lt.2 (h.new k hA)))), fun k hk => (q.sub k hk).elim (h.new k) (fun hge => Nat.le_trans h.ext.size hge), h.ge⟩
theorem WS.up (h : WS wb u g A c l) (e : Ext u v) : WS wb v g A c l := ⟨h.wr.ext e, h.ext.trans' e, h.new, h.ge⟩
theorem WG.off (q : WG g A A' u v) {k : Nat} (hn : ¬ WO g A k) (hlt : k < u.heap.size) : ¬ WO g A' k := fun h => h.elim (fun e => hn (.inl e)) (fun hA => (q.sub k hA).elim (fun h => hn (.inr h)) (fun hge => absurd hlt (Nat.not_lt.2 hge)))
theorem WS.puts (h : WS wb u g A c l) {ns : List Int} {e g2 : Nat} {u2 : World} (f : Fresh u g2 u2 (ns.map (Value.int .i64)) e) (hn : ∀ n ∈ ns, okN n) (h100 : ns.length ≤ 100) (hl : l.length ≤ 100000000000000) {d : Nat} :
    CallsV Tryz.prog 25 #[.pointer (some ⟨g, 0, none⟩), .slice (some ⟨g2, 0, none⟩) ns.length d] u2 fun r w' => r = .tuple #[] ∧ ∃ A' c', WS wb w' g A' c' (l ++ ns.flatMap K15.eI) ∧ WG g A A' u w' := by
  have hge := f.ge
  refine (wput_spec (h.wr.ext f.ext) (ints_fresh f (fun hk => by have := h.wr.lt _ hk; omega) h100) hn (by omega)).mono ?_
  rintro _ w' ⟨rfl, A', c', h', q⟩
  exact ⟨rfl, A', c', (h.up f.ext).step h' q, (WG.ofExt f.ext).trans q⟩
theorem WS.flags (h : WS wb u g A c l) {bs : List Bool} {e g2 : Nat} {u2 : World} (f : Fresh u g2 u2 (bs.map Value.bool) e) (h100 : bs.length ≤ 100) (hl : l.length ≤ 100000000000000) {d : Nat} :
    CallsV Tryz.prog 29 #[.pointer (some ⟨g, 0, none⟩), .slice (some ⟨g2, 0, none⟩) bs.length d] u2 fun r w' => r = .tuple #[] ∧ ∃ A' c', WS wb w' g A' c' (l ++ bs.flatMap eF) ∧ WG g A A' u w' := by
  have hge := f.ge
  refine (wflag_spec (h.wr.ext f.ext) (bools_fresh f (fun hk => by have := h.wr.lt _ hk; omega) h100) (by omega)).mono ?_
  rintro _ w' ⟨rfl, A', c', h', q⟩
  exact ⟨rfl, A', c', (h.up f.ext).step h' q, (WG.ofExt f.ext).trans q⟩
theorem WS.text (h : WS wb u g A c l) (s : ByteArray) (hs : s.size ≤ 1000) (hl : l.length ≤ 100000000000000) :
    CallsV Tryz.prog 26 #[.pointer (some ⟨g, 0, none⟩), .string s] u fun r w' => r = .tuple #[] ∧ ∃ A' c', WS wb w' g A' c' (l ++ eS s) ∧ WG g A A' u w' := by
  refine (wtext_spec h.wr s (by omega)).mono ?_
  rintro _ w' ⟨rfl, A', c', h', q⟩
  exact ⟨rfl, A', c', h.step h' q, q⟩
end
end Go.Proofs.YtaifphjenebgoaaGreatDoor
set_option linter.unusedVariables false
set_option linter.unusedSimpArgs false
namespace Go.Proofs.YtaifphjenebgoaaGreatDoor
open Go Go.Sx R1 K15
theorem flat1 (n : Int) : [n].flatMap K15.eI = K15.eI n := by simp
theorem takeLe {α : Type} {f : α → List UInt8} (xs : List α) (m : Nat) : ((xs.take m).flatMap f).length ≤ (xs.flatMap f).length := by
  conv => rhs; rw [← List.take_append_drop m xs, List.flatMap_append, List.length_append]
  omega
abbrev curC (c : Cur) : List Value := [.string c.name, .bool c.ix, .bool c.wr]
abbrev totC (c : Tot) : List Value := [.string c.fn, .bool c.dist]
theorem WS.offNew {wb u : World} {g : Nat} {A : Option Addr} {c : Nat} {l : List UInt8} (h : WS wb u g A c l) : ∀ k, k < wb.heap.size → ¬ WO g A k := fun k hk hb => hb.elim (fun e => by have := h.ge; omega) (fun hA => absurd hk (Nat.not_lt.2 (h.new k hA)))
set_option maxRecDepth 20000 in
set_option maxHeartbeats 4000000 in
theorem Bytes_spec {w : World} {p : Prog} {a : PAd} (h : PIm w p a) (hT : Tab w) (gp : gProg p) :
    CallsV Tryz.prog 8 #[pagg p a] w fun r w' => ∃ A c, r = .tuple #[.slice A (bytesR constE p).1.length c, .int .i64 (bytesR constE p).2] ∧ OwnB w' A c (bytesR constE p).1 ∧ Ext w w' ∧ New w A := by
  refine code_Bytes.calls okay ?_
  unfold code_Bytes.W
  intro g w1 f
  repeat (first | refine ⟨_, Blk.cell (f.blk) (by rfl), ?_⟩ | refine ⟨_, _, _, Blk.cell (f.blk) (by rfl), ?_⟩)
  refine (Check_spec (h.ext f.ext) (hT.ext f.ext)).mono ?_
  rintro _ w2 ⟨rfl, k2⟩
  have e2 := f.ext.trans' k2
  have bp := f.blk.ext k2
  clear f
  cases hc : checkP p with
  | false =>
    have hR : bytesR constE p = ([], 140) := by unfold bytesR; rw [if_pos hc]
    rw [hR]
    exact ⟨_, rfl, brn (fun _ => ⟨none, 0, rfl, OwnB.nil _, e2, New.none _⟩) (fun h => absurd h (by decide))⟩
  | true =>
  have C := checked hc
  have S := C.few
  have FF := C.fine (fun i hi => (gp.code i hi).1) gp.consts
  have s1 := S.l1
  have s2 := S.l2
  have s3 := S.l3
  have s4 := S.l4
  have s5 := S.l5
  have s6 := S.l6
  refine ⟨_, rfl, brn (fun h => absurd rfl h) (fun _ => ?_)⟩
  have hh := h.ext e2
  intro g1 w3 f3
  have ws : WS w2 w3 g1 none 0 [] := ⟨⟨OwnB.nil _, f3.blk, fun h => (ownB_none _ h).elim⟩, f3.ext, New.none _, f3.ge⟩
  repeat (first | refine ⟨_, Blk.cell (bp.ext f3.ext) (by rfl), ?_⟩ | refine ⟨_, _, _, Blk.cell (bp.ext f3.ext) (by rfl), ?_⟩)
  intro g2 w4 f4
  refine (ws.puts (ns := [p.ver, p.regs, p.binds, (p.names.length : Int)]) f4 (fun n hn => ?_) (by simp) (by simp)).mono ?_
  · simp only [List.mem_cons, List.not_mem_nil, or_false] at hn
    rcases hn with rfl | rfl | rfl | rfl
    · exact FF.ver
    · exact FF.regs
    · exact FF.binds
    · unfold okN; omega
  rintro _ w5 ⟨rfl, A5, c5, ws5, _⟩
  refine ⟨rfl, ?_⟩
  obtain ⟨l0, hl0⟩ : ∃ l, l = K15.eI p.ver ++ (K15.eI p.regs ++ (K15.eI p.binds ++ K15.eI p.names.length)) := ⟨_, rfl⟩
  rw [show [] ++ [p.ver, p.regs, p.binds, (p.names.length : Int)].flatMap K15.eI = l0 by rw [hl0]; simp] at ws5
  have hb0 : l0.length ≤ 40 := by
    have h1 := eI_len FF.ver
    have h2 := eI_len FF.regs
    have h3 := eI_len FF.binds
    have h4 := eI_len (n := (p.names.length : Int)) (by unfold okN; omega)
    rw [hl0]; simp only [List.length_append]; omega
  clear f3 f4 ws
  repeat (first | refine ⟨_, Blk.cell (bp.ext ws5.ext) (by rfl), ?_⟩ | refine ⟨_, _, _, Blk.cell (bp.ext ws5.ext) (by rfl), ?_⟩)
  refine ⟨fun x u => ∃ j : Nat, j ≤ p.names.length ∧ x = (j : Int) ∧ ∃ A c, WS w2 u g1 A c (l0 ++ (p.names.take j).flatMap eS), fun x _ => ((p.names.length : Int) - x).toNat, ⟨0, by omega, rfl, A5, c5, by simpa using ws5⟩, ?_⟩
  rintro _ u ⟨j, hj, rfl, A6, c6, ws6⟩
  have t6 := takeB (f := eS) p.names j S.l1 (fun s hs => eS_len (S.names s hs))
  refine brd (fun hlt => ?_) (fun hge => ?_)
  · have hjl : j < p.names.length := by omega
    obtain ⟨ad, hA, cs, hrep, hcell⟩ := (hh.ext ws6.ext).names.get1 hjl
    have hcs : cs = [.string p.names[j]] := hrep
    subst hcs
    refine ⟨ad, hA, ⟨by omega, by omega⟩, _, hcell 0 _ rfl, ?_⟩
    refine (ws6.text p.names[j] (by have := S.names _ (List.getElem_mem hjl); omega) (by rw [List.length_append]; omega)).mono ?_
    rintro _ v ⟨rfl, A7, c7, ws7, _⟩
    rw [wi ((j : Int) + 1) (by omega) (by omega)]
    refine ⟨rfl, ⟨j + 1, by omega, rfl, A7, c7, ?_⟩, by dsimp only; omega⟩
    rw [flatS hjl, ← List.append_assoc]; exact ws7
  obtain rfl : j = p.names.length := by omega
  rw [List.take_length] at ws6 t6
  obtain ⟨l1, hl1⟩ : ∃ l, l = l0 ++ p.names.flatMap eS := ⟨_, rfl⟩
  rw [← hl1] at ws6
  have hb1 : l1.length ≤ 50000 := by rw [hl1, List.length_append]; omega
  clear t6 ws5
  -- constants
  repeat (first | refine ⟨_, Blk.cell (bp.ext ws6.ext) (by rfl), ?_⟩ | refine ⟨_, _, _, Blk.cell (bp.ext ws6.ext) (by rfl), ?_⟩)
  intro g7 w7 f7
  refine (ws6.puts (ns := [(p.consts.length : Int)]) f7 (fun n hn => by simp only [List.mem_cons, List.not_mem_nil, or_false] at hn; subst hn; unfold okN; omega) (by simp) (by omega)).mono ?_
  rintro _ w8 ⟨rfl, A8, c8, ws8, _⟩
  refine ⟨rfl, ?_⟩
  obtain ⟨l2, hl2⟩ : ∃ l, l = l1 ++ K15.eI p.consts.length := ⟨_, rfl⟩
  rw [flat1, ← hl2] at ws8
  have hb2 : l2.length ≤ 50010 := by
    have := eI_len (n := (p.consts.length : Int)) (by unfold okN; omega)
    rw [hl2, List.length_append]; omega
  clear f7 ws6
  have hP2 : bytesP constE p = l2 ++ (p.consts.flatMap (fun v => eB (constE v)) ++ (eL eCur p.curs ++ (eL eSrt p.sorts ++ (eL eTot p.tots ++ eL eIns p.code)))) := by
    rw [hl2, hl1, hl0]; simp [bytesP, eL, List.append_assoc]
  have hcl : ∀ v, (eB (constE v)).length ≤ 1048586 := fun v => by
    have h1 := constE_len v
    have := eB_len (l := constE v) (by omega)
    omega
  repeat (first | refine ⟨_, Blk.cell (bp.ext ws8.ext) (by rfl), ?_⟩ | refine ⟨_, _, _, Blk.cell (bp.ext ws8.ext) (by rfl), ?_⟩)
  refine ⟨fun x u => ∃ j : Nat, j ≤ p.consts.length ∧ x = (j : Int) ∧ ∃ A c, WS w2 u g1 A c (l2 ++ (p.consts.take j).flatMap (fun v => eB (constE v))), fun x _ => ((p.consts.length : Int) - x).toNat, ⟨0, by omega, rfl, A8, c8, by simpa using ws8⟩, ?_⟩
  rintro _ u ⟨j, hj, rfl, A9, c9, ws9⟩
  have t9 := takeB (f := fun v => eB (constE v)) p.consts j S.l2 (fun v _ => hcl v)
  refine brd (fun hlt => ?_) (fun hge => ?_)
  · have hjl : j < p.consts.length := by omega
    obtain ⟨ad, hA, cs, hrep, hcell⟩ := (hh.ext ws9.ext).consts.get1 hjl
    have hcs : cs = vc p.consts[j] := hrep
    subst hcs
    have hgv := gp.consts _ (List.getElem_mem hjl)
    refine ⟨ad, hA, ⟨by omega, by omega⟩, _, by rw [add_add]; exact hcell 0 _ rfl, _, by rw [add_add]; exact hcell 1 _ rfl, _, by rw [add_add]; exact hcell 2 _ rfl, ?_⟩
    intro gx u1 fx
    refine ⟨fx.blk.stOK (vc p.consts[j]) 0 (by simp [vc]), fun u2 hu2 => ?_⟩
    obtain ⟨bx, qx⟩ := set0 fx.blk (cs := vc p.consts[j]) hu2 rfl
    have ex : Ext u u2 := fx.ext.trans qx (fun _ _ h => h) (fun k hk e => by have := fx.ge; omega)
    repeat (first | refine ⟨_, Blk.cell (bx) (by rfl), ?_⟩ | refine ⟨_, _, _, Blk.cell (bx) (by rfl), ?_⟩)
    intro gy u3 fy
    have iy : Imm KV NoB u3 (some ⟨gy, 0, none⟩) [p.consts[j]] := fy.imm (fun h => h) KV_pos rfl (by simp [maxLen]) (by
      intro i a h
      rcases i with _ | i
      · simp at h; subst h; rfl
      · simp at h)
    refine (Put_spec iy (by simp [maxLen]) (fun v hv => by simp only [List.mem_cons, List.not_mem_nil, or_false] at hv; subst hv; exact hgv)).mono ?_
    rintro _ u4 ⟨B, d, rfl, ho, ey, nB⟩
    have ws10 := ws9.up ((ex.trans' fy.ext).trans' ey)
    have hl10 := constE_len p.consts[j]
    refine ⟨_, _, _, _, rfl, _, rfl, _, _, _, ws10.wr.blk.cell rfl, ?_⟩
    refine (Blob_spec ws10.wr.own (ho.imm (Ω := ownB A9) (fun k hk hA => by have h1 := nB k hk; have h2 := ws9.wr.lt k (.inr hA); have h3 := (ex.trans' fy.ext).size; omega)) (by rw [List.length_append]; show _ + (constE p.consts[j]).length + 10 ≤ _; omega)).mono ?_
    rintro _ u5 ⟨A11, c11, rfl, ho11, hg11⟩
    obtain ⟨q0, q1⟩ := ws10.wr.push ho11 hg11
    refine ⟨_, _, _, rfl, _, rfl, q0, fun u6 hu6 => ?_⟩
    obtain ⟨q1, q2⟩ := q1 u6 hu6
    have ws12 := ws10.step q1 q2
    have hst : l2 ++ (p.consts.take j).flatMap (fun v => eB (constE v)) ++ encB (putR [p.consts[j]]).1 = l2 ++ (p.consts.take (j + 1)).flatMap (fun v => eB (constE v)) := by rw [flatS hjl, ← List.append_assoc]; rfl
    rw [hst] at ws12
    refine ⟨_, rfl, _, _, _, q1.blk.cell rfl, ?_⟩
    rw [hst]
    refine brd (fun hbig => ?_) (fun _ => ?_)
    · have hR : bytesR constE p = ([], 3) := by
        unfold bytesR
        rw [hc, if_neg (by decide), if_pos]
        have := takeLe (f := fun v => eB (constE v)) p.consts (j + 1)
        rw [hP2]
        simp only [List.length_append] at *
        omega
      rw [hR]
      exact ⟨none, 0, rfl, OwnB.nil _, e2.trans' ws12.ext, New.none _⟩
    · rw [wi ((j : Int) + 1) (by omega) (by omega)]
      exact ⟨⟨j + 1, by omega, rfl, A11, c11, ws12⟩, by dsimp only; omega⟩
  obtain rfl : j = p.consts.length := by omega
  rw [List.take_length] at ws9 t9
  obtain ⟨l3, hl3⟩ : ∃ l, l = l2 ++ p.consts.flatMap (fun v => eB (constE v)) := ⟨_, rfl⟩
  rw [← hl3] at ws9
  have hb3 : l3.length ≤ 2000000000 := by rw [hl3, List.length_append]; omega
  clear t9 ws8
  -- cursors
  repeat (first | refine ⟨_, Blk.cell (bp.ext ws9.ext) (by rfl), ?_⟩ | refine ⟨_, _, _, Blk.cell (bp.ext ws9.ext) (by rfl), ?_⟩)
  intro g7 w7 f7
  refine (ws9.puts (ns := [(p.curs.length : Int)]) f7 (fun n hn => by simp only [List.mem_cons, List.not_mem_nil, or_false] at hn; subst hn; unfold okN; omega) (by simp) (by omega)).mono ?_
  rintro _ w8 ⟨rfl, A8, c8, ws8, _⟩
  refine ⟨rfl, ?_⟩
  obtain ⟨l4, hl4⟩ : ∃ l, l = l3 ++ K15.eI p.curs.length := ⟨_, rfl⟩
  rw [flat1, ← hl4] at ws8
  have hb4 : l4.length ≤ 2000000010 := by
    have := eI_len (n := (p.curs.length : Int)) (by unfold okN; omega)
    rw [hl4, List.length_append]; omega
  clear f7 ws9
  repeat (first | refine ⟨_, Blk.cell (bp.ext ws8.ext) (by rfl), ?_⟩ | refine ⟨_, _, _, Blk.cell (bp.ext ws8.ext) (by rfl), ?_⟩)
  refine ⟨fun x u => ∃ j : Nat, j ≤ p.curs.length ∧ x = (j : Int) ∧ ∃ A c, WS w2 u g1 A c (l4 ++ (p.curs.take j).flatMap eCur), fun x _ => ((p.curs.length : Int) - x).toNat, ⟨0, by omega, rfl, A8, c8, by simpa using ws8⟩, ?_⟩
  rintro _ u ⟨j, hj, rfl, A9, c9, ws9⟩
  have t9 := takeB (f := eCur) p.curs j S.l3 (fun c hc => eCur_len (S.curs c hc))
  refine brd (fun hlt => ?_) (fun hge => ?_)
  · have hjl : j < p.curs.length := by omega
    obtain ⟨ad, hA, cs, hrep, hcell⟩ := (hh.ext ws9.ext).curs.get1 hjl
    have hcs : cs = curC p.curs[j] := hrep
    subst hcs
    have hsz := S.curs _ (List.getElem_mem hjl)
    have hes := eS_len hsz
    refine ⟨ad, hA, ⟨by omega, by omega⟩, _, by rw [add_add]; exact hcell 0 _ rfl, _, by rw [add_add]; exact hcell 1 _ rfl, _, by rw [add_add]; exact hcell 2 _ rfl, ?_⟩
    intro gx u1 fx
    refine ⟨fx.blk.stOK (curC p.curs[j]) 0 (by simp), fun u2 hu2 => ?_⟩
    obtain ⟨bx, qx⟩ := set0 fx.blk (cs := curC p.curs[j]) hu2 rfl
    have ex : Ext u u2 := fx.ext.trans qx (fun _ _ h => h) (fun k hk e => by have := fx.ge; omega)
    have nx : ¬ WO g1 A9 gx := fun hk => by have := ws9.wr.lt _ hk; have := fx.ge; omega
    repeat (first | refine ⟨_, Blk.cell (bx) (by rfl), ?_⟩ | refine ⟨_, _, _, Blk.cell (bx) (by rfl), ?_⟩)
    refine ((ws9.up ex).text p.curs[j].name (by omega) (by rw [List.length_append]; omega)).mono ?_
    rintro _ u3 ⟨rfl, A3, c3, ws3, q3⟩
    have bx3 := bx.keep q3.fr nx
    refine ⟨rfl, ?_⟩
    repeat (first | refine ⟨_, Blk.cell (bx3) (by rfl), ?_⟩ | refine ⟨_, _, _, Blk.cell (bx3) (by rfl), ?_⟩)
    intro gy u4 fy
    refine (ws3.flags (bs := [p.curs[j].ix, p.curs[j].wr]) fy (by simp) (by simp only [List.length_append]; omega)).mono ?_
    rintro _ u5 ⟨rfl, A7, c7, ws7, _⟩
    rw [wi ((j : Int) + 1) (by omega) (by omega)]
    refine ⟨rfl, ⟨j + 1, by omega, rfl, A7, c7, ?_⟩, by dsimp only; omega⟩
    have hst : l4 ++ (p.curs.take j).flatMap eCur ++ eS p.curs[j].name ++ [p.curs[j].ix, p.curs[j].wr].flatMap eF = l4 ++ (p.curs.take (j + 1)).flatMap eCur := by rw [flatS hjl]; simp [eCur, List.append_assoc]
    rw [hst] at ws7
    exact ws7
  obtain rfl : j = p.curs.length := by omega
  rw [List.take_length] at ws9 t9
  obtain ⟨l5, hl5⟩ : ∃ l, l = l4 ++ p.curs.flatMap eCur := ⟨_, rfl⟩
  rw [← hl5] at ws9
  have hb5 : l5.length ≤ 2000010000 := by rw [hl5, List.length_append]; omega
  clear t9 ws8
  -- sorters
  repeat (first | refine ⟨_, Blk.cell (bp.ext ws9.ext) (by rfl), ?_⟩ | refine ⟨_, _, _, Blk.cell (bp.ext ws9.ext) (by rfl), ?_⟩)
  intro g7 w7 f7
  refine (ws9.puts (ns := [(p.sorts.length : Int)]) f7 (fun n hn => by simp only [List.mem_cons, List.not_mem_nil, or_false] at hn; subst hn; unfold okN; omega) (by simp) (by omega)).mono ?_
  rintro _ w8 ⟨rfl, A8, c8, ws8, _⟩
  refine ⟨rfl, ?_⟩
  obtain ⟨l6, hl6⟩ : ∃ l, l = l5 ++ K15.eI p.sorts.length := ⟨_, rfl⟩
  rw [flat1, ← hl6] at ws8
  have hb6 : l6.length ≤ 2000010010 := by
    have := eI_len (n := (p.sorts.length : Int)) (by unfold okN; omega)
    rw [hl6, List.length_append]; omega
  clear f7 ws9
  repeat (first | refine ⟨_, Blk.cell (bp.ext ws8.ext) (by rfl), ?_⟩ | refine ⟨_, _, _, Blk.cell (bp.ext ws8.ext) (by rfl), ?_⟩)
  refine ⟨fun x u => ∃ j : Nat, j ≤ p.sorts.length ∧ x = (j : Int) ∧ ∃ A c, WS w2 u g1 A c (l6 ++ (p.sorts.take j).flatMap eSrt), fun x _ => ((p.sorts.length : Int) - x).toNat, ⟨0, by omega, rfl, A8, c8, by simpa using ws8⟩, ?_⟩
  rintro _ u ⟨j, hj, rfl, A9, c9, ws9⟩
  have t9 := takeB (f := eSrt) p.sorts j S.l4 (fun c hc => eSrt_len (S.sorts c hc))
  refine brd (fun hlt => ?_) (fun hge => ?_)
  · have hjl : j < p.sorts.length := by omega
    obtain ⟨ad, hA, cs, hrep, hcell⟩ := hh.sorts.get1 hjl
    obtain ⟨D, dd, hcs, hdd, hD⟩ := id hrep
    subst hcs
    have hcell : ∀ (q : Nat) (y : Value), [Value.slice D p.sorts[j].desc.length dd, .int .i64 p.sorts[j].cols, .bool p.sorts[j].dist][q]? = some y → u.cell? (ad.add (j * KSrt.size + q)) = some y := fun q y hy => Fr.cell ws9.ext (fun h => h) (hcell q y hy)
    have hsz := S.sorts _ (List.getElem_mem hjl)
    have hf1 := flatB (f := eF) (M := 10) p.sorts[j].desc (fun v _ => eF_len v)
    have hok1 : okN (p.sorts[j].desc.length : Int) := by unfold okN; omega
    have hok2 : okN p.sorts[j].cols := by unfold okN; omega
    have hi1 := eI_len hok1
    have hi2 := eI_len hok2
    refine ⟨ad, hA, ⟨by omega, by omega⟩, _, _, _, by rw [add_add]; exact hcell 0 _ rfl, _, by rw [add_add]; exact hcell 1 _ rfl, _, by rw [add_add]; exact hcell 2 _ rfl, ?_⟩
    intro gx u1 fx
    refine ⟨fx.blk.stOK [Value.slice D p.sorts[j].desc.length dd, .int .i64 p.sorts[j].cols, .bool p.sorts[j].dist] 0 (by simp), fun u2 hu2 => ?_⟩
    obtain ⟨bx, qx⟩ := set0 fx.blk hu2 rfl
    have ex : Ext u u2 := fx.ext.trans qx (fun _ _ h => h) (fun k hk e => by have := fx.ge; omega)
    have nx : ¬ WO g1 A9 gx := fun hk => by have := ws9.wr.lt _ hk; have := fx.ge; omega
    repeat (first | refine ⟨_, Blk.cell (bx) (by rfl), ?_⟩ | refine ⟨_, _, _, Blk.cell (bx) (by rfl), ?_⟩)
    intro gy u4 fy
    have wsa := ws9.up ex
    refine (wsa.puts (ns := [(p.sorts[j].desc.length : Int)]) fy (fun n hn => by simp only [List.mem_cons, List.not_mem_nil, or_false] at hn; subst hn; exact hok1) (by simp) (by rw [List.length_append]; omega)).mono ?_
    rintro _ u5 ⟨rfl, A7, c7, ws7, q7⟩
    rw [flat1] at ws7
    have bx7 := bx.keep q7.fr nx
    have nx7 := q7.off nx bx.lt
    refine ⟨rfl, ?_⟩
    repeat (first | refine ⟨_, Blk.cell (bx7) (by rfl), ?_⟩ | refine ⟨_, _, _, Blk.cell (bx7) (by rfl), ?_⟩)
    refine (wflag_spec ws7.wr (bs := p.sorts[j].desc) (hD.keep KBo_pos (ws7.ext.stepTo ws7.offNew)) (by simp only [List.length_append]; omega)).mono ?_
    rintro _ u6 ⟨rfl, Ab, cb, wrb, qb⟩
    have wsb := ws7.step wrb qb
    have bxb := bx7.keep qb.fr nx7
    have nxb := qb.off nx7 bx7.lt
    refine ⟨rfl, ?_⟩
    repeat (first | refine ⟨_, Blk.cell (bxb) (by rfl), ?_⟩ | refine ⟨_, _, _, Blk.cell (bxb) (by rfl), ?_⟩)
    intro gz u7 fz
    refine (wsb.puts (ns := [p.sorts[j].cols]) fz (fun n hn => by simp only [List.mem_cons, List.not_mem_nil, or_false] at hn; subst hn; exact hok2) (by simp) (by simp only [List.length_append]; omega)).mono ?_
    rintro _ u8 ⟨rfl, Ac, cc, wsc, qc⟩
    rw [flat1] at wsc
    have bxc := bxb.keep qc.fr nxb
    refine ⟨rfl, ?_⟩
    repeat (first | refine ⟨_, Blk.cell (bxc) (by rfl), ?_⟩ | refine ⟨_, _, _, Blk.cell (bxc) (by rfl), ?_⟩)
    intro gv u9 fv
    refine (wsc.flags (bs := [p.sorts[j].dist]) fv (by simp) (by simp only [List.length_append]; omega)).mono ?_
    rintro _ u10 ⟨rfl, Ad, cd, wsd, _⟩
    rw [wi ((j : Int) + 1) (by omega) (by omega)]
    refine ⟨rfl, ⟨j + 1, by omega, rfl, Ad, cd, ?_⟩, by dsimp only; omega⟩
    have hst : l6 ++ (p.sorts.take j).flatMap eSrt ++ K15.eI p.sorts[j].desc.length ++ p.sorts[j].desc.flatMap eF ++ K15.eI p.sorts[j].cols ++ [p.sorts[j].dist].flatMap eF = l6 ++ (p.sorts.take (j + 1)).flatMap eSrt := by rw [flatS hjl]; simp [eSrt, eL, List.append_assoc]
    rw [hst] at wsd
    exact wsd
  obtain rfl : j = p.sorts.length := by omega
  rw [List.take_length] at ws9 t9
  obtain ⟨l7, hl7⟩ : ∃ l, l = l6 ++ p.sorts.flatMap eSrt := ⟨_, rfl⟩
  rw [← hl7] at ws9
  have hb7 : l7.length ≤ 2000020000 := by rw [hl7, List.length_append]; omega
  clear t9 ws8
  -- totals
  repeat (first | refine ⟨_, Blk.cell (bp.ext ws9.ext) (by rfl), ?_⟩ | refine ⟨_, _, _, Blk.cell (bp.ext ws9.ext) (by rfl), ?_⟩)
  intro g7 w7 f7
  refine (ws9.puts (ns := [(p.tots.length : Int)]) f7 (fun n hn => by simp only [List.mem_cons, List.not_mem_nil, or_false] at hn; subst hn; unfold okN; omega) (by simp) (by omega)).mono ?_
  rintro _ w8 ⟨rfl, A8, c8, ws8, _⟩
  refine ⟨rfl, ?_⟩
  obtain ⟨l8, hl8⟩ : ∃ l, l = l7 ++ K15.eI p.tots.length := ⟨_, rfl⟩
  rw [flat1, ← hl8] at ws8
  have hb8 : l8.length ≤ 2000020010 := by
    have := eI_len (n := (p.tots.length : Int)) (by unfold okN; omega)
    rw [hl8, List.length_append]; omega
  clear f7 ws9
  repeat (first | refine ⟨_, Blk.cell (bp.ext ws8.ext) (by rfl), ?_⟩ | refine ⟨_, _, _, Blk.cell (bp.ext ws8.ext) (by rfl), ?_⟩)
  refine ⟨fun x u => ∃ j : Nat, j ≤ p.tots.length ∧ x = (j : Int) ∧ ∃ A c, WS w2 u g1 A c (l8 ++ (p.tots.take j).flatMap eTot), fun x _ => ((p.tots.length : Int) - x).toNat, ⟨0, by omega, rfl, A8, c8, by simpa using ws8⟩, ?_⟩
  rintro _ u ⟨j, hj, rfl, A9, c9, ws9⟩
  have t9 := takeB (f := eTot) p.tots j S.l5 (fun c hc => eTot_len (S.tots c hc))
  refine brd (fun hlt => ?_) (fun hge => ?_)
  · have hjl : j < p.tots.length := by omega
    obtain ⟨ad, hA, cs, hrep, hcell⟩ := (hh.ext ws9.ext).tots.get1 hjl
    have hcs : cs = totC p.tots[j] := hrep
    subst hcs
    have hsz := S.tots _ (List.getElem_mem hjl)
    have hes := eS_len hsz
    refine ⟨ad, hA, ⟨by omega, by omega⟩, _, by rw [add_add]; exact hcell 0 _ rfl, _, by rw [add_add]; exact hcell 1 _ rfl, ?_⟩
    intro gx u1 fx
    refine ⟨fx.blk.stOK (totC p.tots[j]) 0 (by simp), fun u2 hu2 => ?_⟩
    obtain ⟨bx, qx⟩ := set0 fx.blk (cs := totC p.tots[j]) hu2 rfl
    have ex : Ext u u2 := fx.ext.trans qx (fun _ _ h => h) (fun k hk e => by have := fx.ge; omega)
    have nx : ¬ WO g1 A9 gx := fun hk => by have := ws9.wr.lt _ hk; have := fx.ge; omega
    repeat (first | refine ⟨_, Blk.cell (bx) (by rfl), ?_⟩ | refine ⟨_, _, _, Blk.cell (bx) (by rfl), ?_⟩)
    refine ((ws9.up ex).text p.tots[j].fn (by omega) (by rw [List.length_append]; omega)).mono ?_
    rintro _ u3 ⟨rfl, A3, c3, ws3, q3⟩
    have bx3 := bx.keep q3.fr nx
    refine ⟨rfl, ?_⟩
    repeat (first | refine ⟨_, Blk.cell (bx3) (by rfl), ?_⟩ | refine ⟨_, _, _, Blk.cell (bx3) (by rfl), ?_⟩)
    intro gy u4 fy
    refine (ws3.flags (bs := [p.tots[j].dist]) fy (by simp) (by simp only [List.length_append]; omega)).mono ?_
    rintro _ u5 ⟨rfl, A7, c7, ws7, _⟩
    rw [wi ((j : Int) + 1) (by omega) (by omega)]
    refine ⟨rfl, ⟨j + 1, by omega, rfl, A7, c7, ?_⟩, by dsimp only; omega⟩
    have hst : l8 ++ (p.tots.take j).flatMap eTot ++ eS p.tots[j].fn ++ [p.tots[j].dist].flatMap eF = l8 ++ (p.tots.take (j + 1)).flatMap eTot := by rw [flatS hjl]; simp [eTot, List.append_assoc]
    rw [hst] at ws7
    exact ws7
  obtain rfl : j = p.tots.length := by omega
  rw [List.take_length] at ws9 t9
  obtain ⟨l9, hl9⟩ : ∃ l, l = l8 ++ p.tots.flatMap eTot := ⟨_, rfl⟩
  rw [← hl9] at ws9
  have hb9 : l9.length ≤ 2000040000 := by rw [hl9, List.length_append]; omega
  clear t9 ws8
  -- the code
  repeat (first | refine ⟨_, Blk.cell (bp.ext ws9.ext) (by rfl), ?_⟩ | refine ⟨_, _, _, Blk.cell (bp.ext ws9.ext) (by rfl), ?_⟩)
  intro g7 w7 f7
  refine (ws9.puts (ns := [(p.code.length : Int)]) f7 (fun n hn => by simp only [List.mem_cons, List.not_mem_nil, or_false] at hn; subst hn; unfold okN; omega) (by simp) (by omega)).mono ?_
  rintro _ w8 ⟨rfl, A8, c8, ws8, _⟩
  refine ⟨rfl, ?_⟩
  obtain ⟨l10, hl10⟩ : ∃ l, l = l9 ++ K15.eI p.code.length := ⟨_, rfl⟩
  rw [flat1, ← hl10] at ws8
  have hb10 : l10.length ≤ 2000040010 := by
    have := eI_len (n := (p.code.length : Int)) (by unfold okN; omega)
    rw [hl10, List.length_append]; omega
  clear f7 ws9
  repeat (first | refine ⟨_, Blk.cell (bp.ext ws8.ext) (by rfl), ?_⟩ | refine ⟨_, _, _, Blk.cell (bp.ext ws8.ext) (by rfl), ?_⟩)
  refine ⟨fun x u => ∃ j : Nat, j ≤ p.code.length ∧ x = (j : Int) ∧ ∃ A c, WS w2 u g1 A c (l10 ++ (p.code.take j).flatMap eIns), fun x _ => ((p.code.length : Int) - x).toNat, ⟨0, by omega, rfl, A8, c8, by simpa using ws8⟩, ?_⟩
  rintro _ u ⟨j, hj, rfl, A9, c9, ws9⟩
  have t9 := takeB (f := eIns) p.code j S.l6 (fun c hc => eIns_len (FF.code c hc))
  refine brd (fun hlt => ?_) (fun hge => ?_)
  · have hjl : j < p.code.length := by omega
    obtain ⟨ad, hA, cs, hrep, hcell⟩ := (hh.ext ws9.ext).code.get1 hjl
    have hcs : cs = insC p.code[j] := hrep
    subst hcs
    have hfi := FF.code _ (List.getElem_mem hjl)
    have hgi := (gp.code _ (List.getElem_mem hjl)).1
    refine ⟨ad, hA, ⟨by omega, by omega⟩, _, by rw [add_add]; exact hcell 0 _ rfl, _, by rw [add_add]; exact hcell 1 _ rfl, _, by rw [add_add]; exact hcell 2 _ rfl, _, by rw [add_add]; exact hcell 3 _ rfl, _, by rw [add_add]; exact hcell 4 _ rfl, ?_⟩
    intro gx u1 fx
    refine ⟨fx.blk.stOK (insC p.code[j]) 0 (by simp), fun u2 hu2 => ?_⟩
    obtain ⟨bx, qx⟩ := set0 fx.blk (cs := insC p.code[j]) hu2 rfl
    have ex : Ext u u2 := fx.ext.trans qx (fun _ _ h => h) (fun k hk e => by have := fx.ge; omega)
    repeat (first | refine ⟨_, Blk.cell (bx) (by rfl), ?_⟩ | refine ⟨_, _, _, Blk.cell (bx) (by rfl), ?_⟩)
    rw [wi p.code[j].op (by omega) (by omega)]
    intro gy u4 fy
    refine ((ws9.up ex).puts (ns := [p.code[j].op, p.code[j].a, p.code[j].b, p.code[j].c, p.code[j].d]) fy (fun n hn => ?_) (by simp) (by rw [List.length_append]; omega)).mono ?_
    · simp only [List.mem_cons, List.not_mem_nil, or_false] at hn
      rcases hn with rfl | rfl | rfl | rfl | rfl
      · exact hfi.1
      · exact hfi.2.1
      · exact hfi.2.2.1
      · exact hfi.2.2.2.1
      · exact hfi.2.2.2.2
    rintro _ u5 ⟨rfl, A7, c7, ws7, _⟩
    rw [wi ((j : Int) + 1) (by omega) (by omega)]
    refine ⟨rfl, ⟨j + 1, by omega, rfl, A7, c7, ?_⟩, by dsimp only; omega⟩
    have hst : l10 ++ (p.code.take j).flatMap eIns ++ [p.code[j].op, p.code[j].a, p.code[j].b, p.code[j].c, p.code[j].d].flatMap K15.eI = l10 ++ (p.code.take (j + 1)).flatMap eIns := by rw [flatS hjl]; simp [eIns, List.append_assoc]
    rw [hst] at ws7
    exact ws7
  obtain rfl : j = p.code.length := by omega
  rw [List.take_length] at ws9
  have hP : l10 ++ p.code.flatMap eIns = bytesP constE p := by
    rw [hl10, hl9, hl8, hl7, hl6, hl5, hl4, hl3, hl2, hl1, hl0]; simp [bytesP, eL, List.append_assoc]
  rw [hP] at ws9
  refine ⟨_, rfl, _, _, _, ws9.wr.blk.cell rfl, ?_⟩
  have eR : bytesR constE p = if 1048576 < (bytesP constE p).length then ([], 3) else (bytesP constE p, 0) := by unfold bytesR; rw [hc, if_neg (by decide)]
  rw [eR]
  refine brd (fun hbig => ?_) (fun hsm => ?_)
  · rw [if_pos (by omega)]
    exact ⟨none, 0, rfl, OwnB.nil _, e2.trans' ws9.ext, New.none _⟩
  · rw [if_neg (by omega)]
    exact ⟨_, rfl, _, _, _, ws9.wr.blk.cell rfl, A9, c9, rfl, ws9.wr.own, e2.trans' ws9.ext, ws9.new.ext e2⟩
end Go.Proofs.YtaifphjenebgoaaGreatDoor
set_option linter.unusedVariables false
set_option linter.unusedSimpArgs false
namespace Go.Proofs.YtaifphjenebgoaaGreatDoor
open Go Go.Sx R1 K15
theorem str_iff (x y : ByteArray) : (ByteArray.toList x == ByteArray.toList y) = true ↔ x = y := by
  obtain ⟨⟨l⟩⟩ := x; obtain ⟨⟨m⟩⟩ := y
  rw [show (ByteArray.toList ⟨⟨l⟩⟩ == ByteArray.toList ⟨⟨m⟩⟩) = decide (l = m) from eq_str l m]
  simp
theorem takes_eq {α : Type} {l m : List α} {j : Nat} (h : l.take j = m.take j) (h1 : l.length ≤ j) (h2 : m.length ≤ j) : l = m := by
  rw [List.take_of_length_le h1, List.take_of_length_le h2] at h; exact h
theorem takes_step {α : Type} {l m : List α} {j : Nat} (h : l.take j = m.take j) (h1 : j < l.length) (h2 : j < m.length) (he : l[j] = m[j]) : l.take (j + 1) = m.take (j + 1) := by
  rw [List.take_add_one, List.take_add_one, h, List.getElem?_eq_getElem h1, List.getElem?_eq_getElem h2, he]
theorem at1 {α : Type} {K : Kd α} {w : World} {A : Option Addr} {l : List α} (h : Imm K NoB w A l) {j : Nat} (hj : j < l.length) :
    ∃ ad, A = some ad ∧ ∃ cs, K.rep NoB w l[j] cs ∧ ∀ v, Ext w v → ∀ (q : Nat) (y : Value), cs[q]? = some y → v.cell? ((ad.add (j * K.size)).add q) = some y := by
  obtain ⟨ad, hA, cs, hr, hc⟩ := h.get1 hj
  exact ⟨ad, hA, cs, hr, fun v e q y hy => by rw [add_add]; exact Fr.cell e (fun h => h) (hc q y hy)⟩
theorem SameTexts_spec {w : World} {A B : Option Addr} {c d : Nat} {l m : List ByteArray} (hl : Imm Kd.str NoB w A l) (hm : Imm Kd.str NoB w B m) (hx : l.length ≤ maxLen) :
    CallsV Tryz.prog 44 #[.slice A l.length c, .slice B m.length d] w fun r w' => (∃ b, r = .bool b ∧ (b = true ↔ l = m)) ∧ Ext w w' := by
  simp only [maxLen] at hx
  refine cardindexkit_SameTexts.calls okay ?_
  unfold cardindexkit_SameTexts.W
  have no : ∀ u, Ext w u → l ≠ m → (∃ b, Value.bool false = .bool b ∧ (b = true ↔ l = m)) ∧ Ext w u := fun u e hne => ⟨⟨false, rfl, ⟨fun h => absurd h (by decide), fun h => absurd h hne⟩⟩, e⟩
  refine brn (fun hne => no w (.refl _ _) (fun h => hne (by rw [h]))) (fun hlen => ?_)
  refine ⟨fun x u => ∃ j : Nat, j ≤ l.length ∧ x = (j : Int) ∧ l.take j = m.take j ∧ Ext w u, fun x _ => ((l.length : Int) - x).toNat, ⟨0, by omega, rfl, rfl, .refl _ _⟩, ?_⟩
  rintro _ u ⟨j, hj, rfl, ht, e⟩
  refine brd (fun hlt => ?_) (fun hge => ?_)
  · have h1 : j < l.length := by omega
    have h2 : j < m.length := by omega
    obtain ⟨ad, hA, cs, hrep, hc⟩ := (hl.ext KStr_pos e).get1 h1
    obtain rfl : cs = [.string l[j]] := hrep
    obtain ⟨ad', hA', cs', hrep', hc'⟩ := (hm.ext KStr_pos e).get1 h2
    obtain rfl : cs' = [.string m[j]] := hrep'
    refine ⟨ad, hA, ⟨by omega, by omega⟩, fun v => Ext u v, Fr.drew NoB u, _, fun v k => Fr.cell k (fun h => h) (hc 0 _ rfl), ad', hA', ⟨by omega, by omega⟩, _, fun v k => Fr.cell k (fun h => h) (hc' 0 _ rfl), brnb (fun hf => ?_) (fun hs => ?_)⟩
    · refine no _ e.drew (fun h => ?_)
      subst h
      simp at hf
    · rw [wi ((j : Int) + 1) (by omega) (by omega)]
      exact ⟨⟨j + 1, by omega, rfl, takes_step ht h1 h2 ((str_iff _ _).1 hs), e.drew⟩, by dsimp only; omega⟩
  · exact ⟨⟨true, rfl, fun _ => takes_eq ht (by omega) (by omega), fun _ => rfl⟩, e⟩
set_option maxRecDepth 20000 in
set_option maxHeartbeats 4000000 in
theorem Same_spec {w : World} {p q : Prog} {a a' : PAd} (hp : PIm w p a) (hq : PIm w q a') (gp : gProg p) :
    CallsV Tryz.prog 11 #[pagg p a, pagg q a'] w fun r w' => (∃ b, r = .bool b ∧ (b = true ↔ p = q)) ∧ Ext w w' := by
  have m1 := hp.l1
  have m2 := hp.l2
  have m3 := hp.l3
  have m4 := hp.l4
  have m5 := hp.l5
  have m6 := hp.l6
  simp only [maxLen] at m1 m2 m3 m4 m5 m6
  refine cardindexlaw15_Same.calls okay ?_
  unfold cardindexlaw15_Same.W
  have no : ∀ u, Ext w u → p ≠ q → (∃ b, Value.bool false = .bool b ∧ (b = true ↔ p = q)) ∧ Ext w u := fun u e hne => ⟨⟨false, rfl, ⟨fun h => absurd h (by decide), fun h => absurd h hne⟩⟩, e⟩
  intro g w1 f g1 w2 f1
  have bp : Blk w2 g (pcs p a) := f.blk.ext f1.ext
  have bq : Blk w2 g1 (pcs q a') := f1.blk
  have e2 := f.ext.trans' f1.ext
  clear f f1
  repeat (first | refine ⟨_, Blk.cell (bp) (by rfl), ?_⟩ | refine ⟨_, _, _, Blk.cell (bp) (by rfl), ?_⟩ | refine ⟨_, Blk.cell (bq) (by rfl), ?_⟩ | refine ⟨_, _, _, Blk.cell (bq) (by rfl), ?_⟩)
  refine brn (fun hne => no _ e2 (fun h => hne (by rw [h]))) (fun q1 => ?_)
  repeat (first | refine ⟨_, Blk.cell (bp) (by rfl), ?_⟩ | refine ⟨_, _, _, Blk.cell (bp) (by rfl), ?_⟩ | refine ⟨_, Blk.cell (bq) (by rfl), ?_⟩ | refine ⟨_, _, _, Blk.cell (bq) (by rfl), ?_⟩)
  refine brn (fun hne => no _ e2 (fun h => hne (by rw [h]))) (fun q2 => ?_)
  repeat (first | refine ⟨_, Blk.cell (bp) (by rfl), ?_⟩ | refine ⟨_, _, _, Blk.cell (bp) (by rfl), ?_⟩ | refine ⟨_, Blk.cell (bq) (by rfl), ?_⟩ | refine ⟨_, _, _, Blk.cell (bq) (by rfl), ?_⟩)
  refine brn (fun hne => no _ e2 (fun h => hne (by rw [h]))) (fun q3 => ?_)
  repeat (first | refine ⟨_, Blk.cell (bp) (by rfl), ?_⟩ | refine ⟨_, _, _, Blk.cell (bp) (by rfl), ?_⟩ | refine ⟨_, Blk.cell (bq) (by rfl), ?_⟩ | refine ⟨_, _, _, Blk.cell (bq) (by rfl), ?_⟩)
  refine (SameTexts_spec (hp.ext e2).names (hq.ext e2).names hp.l1).mono ?_
  rintro _ w3 ⟨⟨b, rfl, hb⟩, k3⟩
  have e3 := e2.trans' k3
  have bp := bp.ext k3
  have bq := bq.ext k3
  refine ⟨_, rfl, brnb (fun hf => no _ e3 (fun h => by have := hb.2 (by rw [h]); rw [this] at hf; cases hf)) (fun ht => ?_)⟩
  have q4 := hb.1 ht
  repeat (first | refine ⟨_, Blk.cell (bp) (by rfl), ?_⟩ | refine ⟨_, _, _, Blk.cell (bp) (by rfl), ?_⟩ | refine ⟨_, Blk.cell (bq) (by rfl), ?_⟩ | refine ⟨_, _, _, Blk.cell (bq) (by rfl), ?_⟩)
  refine brn (fun hne => no _ e3 (fun h => hne (by rw [h]))) (fun n5 => ?_)
  repeat (first | refine ⟨_, Blk.cell (bp) (by rfl), ?_⟩ | refine ⟨_, _, _, Blk.cell (bp) (by rfl), ?_⟩ | refine ⟨_, Blk.cell (bq) (by rfl), ?_⟩ | refine ⟨_, _, _, Blk.cell (bq) (by rfl), ?_⟩)
  refine brn (fun hne => no _ e3 (fun h => hne (by rw [h]))) (fun n6 => ?_)
  repeat (first | refine ⟨_, Blk.cell (bp) (by rfl), ?_⟩ | refine ⟨_, _, _, Blk.cell (bp) (by rfl), ?_⟩ | refine ⟨_, Blk.cell (bq) (by rfl), ?_⟩ | refine ⟨_, _, _, Blk.cell (bq) (by rfl), ?_⟩)
  refine brn (fun hne => no _ e3 (fun h => hne (by rw [h]))) (fun n7 => ?_)
  repeat (first | refine ⟨_, Blk.cell (bp) (by rfl), ?_⟩ | refine ⟨_, _, _, Blk.cell (bp) (by rfl), ?_⟩ | refine ⟨_, Blk.cell (bq) (by rfl), ?_⟩ | refine ⟨_, _, _, Blk.cell (bq) (by rfl), ?_⟩)
  refine brn (fun hne => no _ e3 (fun h => hne (by rw [h]))) (fun n8 => ?_)
  repeat (first | refine ⟨_, Blk.cell (bp) (by rfl), ?_⟩ | refine ⟨_, _, _, Blk.cell (bp) (by rfl), ?_⟩ | refine ⟨_, Blk.cell (bq) (by rfl), ?_⟩ | refine ⟨_, _, _, Blk.cell (bq) (by rfl), ?_⟩)
  refine brn (fun hne => no _ e3 (fun h => hne (by rw [h]))) (fun n9 => ?_)
  repeat (first | refine ⟨_, Blk.cell (bp) (by rfl), ?_⟩ | refine ⟨_, _, _, Blk.cell (bp) (by rfl), ?_⟩)
  have hp := hp.ext e3
  have hq := hq.ext e3
  -- constants
  refine ⟨fun x u => ∃ j : Nat, j ≤ p.consts.length ∧ x = (j : Int) ∧ p.consts.take j = q.consts.take j ∧ Ext w3 u, fun x _ => ((p.consts.length : Int) - x).toNat, ⟨0, by omega, rfl, rfl, .refl _ _⟩, ?_⟩
  rintro _ u ⟨j, hj, rfl, ht, e⟩
  refine brd (fun hlt => ?_) (fun hge => ?_)
  · have h1 : j < p.consts.length := by omega
    have h2 : j < q.consts.length := by omega
    obtain ⟨ad, hA, cs, hrep, hc⟩ := at1 (hp.ext e).consts h1
    obtain rfl : cs = vc p.consts[j] := hrep
    obtain ⟨ad', hA', cs', hrep', hc'⟩ := at1 (hq.ext e).consts h2
    obtain rfl : cs' = vc q.consts[j] := hrep'
    refine ⟨fun v => Ext u v, Fr.drew NoB u, _, _, _, fun v k => (bp.ext (e.trans' k)).cell rfl, ad, hA, ⟨by omega, by omega⟩, _, fun v k => hc v k 0 _ rfl, _, fun v k => hc v k 1 _ rfl, _, fun v k => hc v k 2 _ rfl,
      _, _, _, fun v k => (bq.ext (e.trans' k)).cell rfl, ad', hA', ⟨by omega, by omega⟩, _, fun v k => hc' v k 0 _ rfl, _, fun v k => hc' v k 1 _ rfl, _, fun v k => hc' v k 2 _ rfl, brf (by kernel_rfl) (brnb (fun hf => ?_) (fun hs => ?_))⟩
    · refine no _ (e3.trans' e).drew (fun h => ?_)
      subst h
      simp at hf
    · rw [wi ((j : Int) + 1) (by omega) (by omega)]
      refine ⟨⟨j + 1, by omega, rfl, takes_step ht h1 h2 ?_, e.drew⟩, by dsimp only; omega⟩
      simp only [Bool.and_eq_true, decide_eq_true_eq, str_iff, and_true] at hs
      generalize p.consts[j] = x at hs ⊢
      generalize q.consts[j] = y at hs ⊢
      cases x; cases y
      obtain ⟨r1, r2, r3⟩ := hs
      simp only at r1 r2 r3
      subst r1; subst r2; subst r3; rfl
  have q5 := takes_eq ht (by omega) (by omega)
  clear ht hge hj
  have e3 := e3.trans' e
  have bp := bp.ext e
  have bq := bq.ext e
  have hp := hp.ext e
  have hq := hq.ext e
  clear e
  repeat (first | refine ⟨_, Blk.cell (bp) (by rfl), ?_⟩ | refine ⟨_, _, _, Blk.cell (bp) (by rfl), ?_⟩)
  -- cursors
  refine ⟨fun x v => ∃ j : Nat, j ≤ p.curs.length ∧ x = (j : Int) ∧ p.curs.take j = q.curs.take j ∧ Ext u v, fun x _ => ((p.curs.length : Int) - x).toNat, ⟨0, by omega, rfl, rfl, .refl _ _⟩, ?_⟩
  rintro _ v ⟨j, hj, rfl, ht, e⟩
  refine brd (fun hlt => ?_) (fun hge => ?_)
  · have h1 : j < p.curs.length := by omega
    have h2 : j < q.curs.length := by omega
    obtain ⟨ad, hA, cs, hrep, hc⟩ := at1 (hp.ext e).curs h1
    obtain rfl : cs = curC p.curs[j] := hrep
    obtain ⟨ad', hA', cs', hrep', hc'⟩ := at1 (hq.ext e).curs h2
    obtain rfl : cs' = curC q.curs[j] := hrep'
    refine ⟨fun v' => Ext v v', Fr.drew NoB v, _, _, _, fun v k => (bp.ext (e.trans' k)).cell rfl, ad, hA, ⟨by omega, by omega⟩, _, fun v k => hc v k 0 _ rfl, _, fun v k => hc v k 1 _ rfl, _, fun v k => hc v k 2 _ rfl,
      _, _, _, fun v k => (bq.ext (e.trans' k)).cell rfl, ad', hA', ⟨by omega, by omega⟩, _, fun v k => hc' v k 0 _ rfl, _, fun v k => hc' v k 1 _ rfl, _, fun v k => hc' v k 2 _ rfl, brf (by kernel_rfl) (brnb (fun hf => ?_) (fun hs => ?_))⟩
    · refine no _ (e3.trans' e).drew (fun h => ?_)
      subst h
      simp at hf
    · rw [wi ((j : Int) + 1) (by omega) (by omega)]
      refine ⟨⟨j + 1, by omega, rfl, takes_step ht h1 h2 ?_, e.drew⟩, by dsimp only; omega⟩
      simp only [Bool.and_eq_true, decide_eq_true_eq, str_iff, and_true] at hs
      generalize p.curs[j] = x at hs ⊢
      generalize q.curs[j] = y at hs ⊢
      cases x; cases y
      obtain ⟨r1, r2, r3⟩ := hs
      simp only at r1 r2 r3
      subst r1; subst r2; subst r3; rfl
  have q6 := takes_eq ht (by omega) (by omega)
  clear ht hge hj
  have e3 := e3.trans' e
  have bp := bp.ext e
  have bq := bq.ext e
  have hp := hp.ext e
  have hq := hq.ext e
  clear e
  repeat (first | refine ⟨_, Blk.cell (bp) (by rfl), ?_⟩ | refine ⟨_, _, _, Blk.cell (bp) (by rfl), ?_⟩)
  -- sorters
  refine ⟨fun x u' => ∃ j : Nat, j ≤ p.sorts.length ∧ x = (j : Int) ∧ p.sorts.take j = q.sorts.take j ∧ Ext v u', fun x _ => ((p.sorts.length : Int) - x).toNat, ⟨0, by omega, rfl, rfl, .refl _ _⟩, ?_⟩
  rintro _ u2 ⟨j, hj, rfl, ht, e⟩
  refine brd (fun hlt => ?_) (fun hge => ?_)
  · have h1 : j < p.sorts.length := by omega
    have h2 : j < q.sorts.length := by omega
    obtain ⟨ad, hA, cs, hrep, hc⟩ := at1 (hp.ext e).sorts h1
    obtain ⟨D, dd, hcs, hdd, hD⟩ := id hrep
    subst hcs
    obtain ⟨ad', hA', cs', hrep', hc'⟩ := at1 (hq.ext e).sorts h2
    obtain ⟨D', dd', hcs', hdd', hD'⟩ := id hrep'
    subst hcs'
    have toks : ∀ (b : Prop), (p = q → b) → ¬ b → p ≠ q := fun b hb hn h => hn (hb h)
    have hdl := (gp.sorts _ (List.getElem_mem h1)).1
    simp only [maxLen] at hdl
    have eq1 : p = q → p.sorts[j] = q.sorts[j] := fun h => by subst h; rfl
    have nx : p.sorts.take j = q.sorts.take j := ht
    generalize hX : p.sorts[j] = X at *
    generalize hY : q.sorts[j] = Y at *
    refine ⟨fun v' => Ext u2 v', Fr.drew NoB u2, _, _, _, fun v k => (bp.ext (e.trans' k)).cell rfl, ad, hA, ⟨by omega, by omega⟩, _, _, _, fun v k => hc v k 0 _ rfl, _, fun v k => hc v k 1 _ rfl, _, fun v k => hc v k 2 _ rfl,
      _, _, _, fun v k => (bq.ext (e.trans' k)).cell rfl, ad', hA', ⟨by omega, by omega⟩, _, _, _, fun v k => hc' v k 0 _ rfl, _, fun v k => hc' v k 1 _ rfl, _, fun v k => hc' v k 2 _ rfl, ?_⟩
    refine ⟨?_, ?_⟩
    case' refine_1 =>
      intro gq w4 f4
      have x4 : Ext u2 w4 := Ext.drew0 f4.ext
      refine ⟨x4, ?_⟩
      intro gr w5 f5
      have x5 := x4.trans' f5.ext
      have hq' : u2.heap.size ≤ gq := f4.ge
      have hr' : u2.heap.size ≤ gr := Nat.le_trans x4.size f5.ge
      have hn : gq ≠ gr := by have := f4.lt; have := f5.ge; omega
      refine ⟨x5, (f4.blk.ext f5.ext).stOK [Value.slice D X.desc.length dd, .int .i64 X.cols, .bool X.dist] 0 (by simp), fun w6 hw6 => ?_⟩
      obtain ⟨bx, q6'⟩ := set0 (f4.blk.ext f5.ext) hw6 rfl
      have by_ := f5.blk.keep q6' (fun e => hn e.symm)
      have x6 : Ext u2 w6 := x5.trans q6' (fun _ _ h => h) (fun k hk e => by omega)
      refine ⟨x6, by_.stOK [Value.slice D' Y.desc.length dd', .int .i64 Y.cols, .bool Y.dist] 0 (by simp), fun w7 hw7 => ?_⟩
      obtain ⟨by_, q7'⟩ := set0 by_ hw7 rfl
      have bx := bx.keep q7' hn
      have x7 : Ext u2 w7 := x6.trans q7' (fun _ _ h => h) (fun k hk e => by omega)
      clear hw7 hw6 q7' q6' x6 x5 f5 x4 f4
    case' refine_2 =>
      intro gr w4 f4
      have x4 : Ext u2 w4 := Ext.drew0 f4.ext
      refine ⟨x4, ?_⟩
      intro gq w5 f5
      have x5 := x4.trans' f5.ext
      have hr' : u2.heap.size ≤ gr := f4.ge
      have hq' : u2.heap.size ≤ gq := Nat.le_trans x4.size f5.ge
      have hn : gq ≠ gr := by have := f4.lt; have := f5.ge; omega
      refine ⟨x5, f5.blk.stOK [Value.slice D X.desc.length dd, .int .i64 X.cols, .bool X.dist] 0 (by simp), fun w6 hw6 => ?_⟩
      obtain ⟨bx, q6'⟩ := set0 f5.blk hw6 rfl
      have by_ := (f4.blk.ext f5.ext).keep q6' (fun e => hn e.symm)
      have x6 : Ext u2 w6 := x5.trans q6' (fun _ _ h => h) (fun k hk e => by omega)
      refine ⟨x6, by_.stOK [Value.slice D' Y.desc.length dd', .int .i64 Y.cols, .bool Y.dist] 0 (by simp), fun w7 hw7 => ?_⟩
      obtain ⟨by_, q7'⟩ := set0 by_ hw7 rfl
      have bx := bx.keep q7' hn
      have x7 : Ext u2 w7 := x6.trans q7' (fun _ _ h => h) (fun k hk e => by omega)
      clear hw7 hw6 q7' q6' x6 x5 f5 x4 f4
    all_goals
      have e7 := (e3.trans' e).trans' x7
      repeat (first | refine ⟨_, Blk.cell (bx) (by rfl), ?_⟩ | refine ⟨_, _, _, Blk.cell (bx) (by rfl), ?_⟩ | refine ⟨_, Blk.cell (by_) (by rfl), ?_⟩ | refine ⟨_, _, _, Blk.cell (by_) (by rfl), ?_⟩)
      refine brn (fun hne => no _ e7 (fun h => hne (by rw [eq1 h]))) (fun d1 => ?_)
      repeat (first | refine ⟨_, Blk.cell (bx) (by rfl), ?_⟩ | refine ⟨_, _, _, Blk.cell (bx) (by rfl), ?_⟩ | refine ⟨_, Blk.cell (by_) (by rfl), ?_⟩ | refine ⟨_, _, _, Blk.cell (by_) (by rfl), ?_⟩)
      refine brn (fun hne => no _ e7 (fun h => hne (by rw [eq1 h]))) (fun d2 => ?_)
      repeat (first | refine ⟨_, Blk.cell (bx) (by rfl), ?_⟩ | refine ⟨_, _, _, Blk.cell (bx) (by rfl), ?_⟩ | refine ⟨_, Blk.cell (by_) (by rfl), ?_⟩ | refine ⟨_, _, _, Blk.cell (by_) (by rfl), ?_⟩)
      refine brn (fun hne => no _ e7 (fun h => hne (by rw [eq1 h]))) (fun d3 => ?_)
      repeat (first | refine ⟨_, Blk.cell (bx) (by rfl), ?_⟩ | refine ⟨_, _, _, Blk.cell (bx) (by rfl), ?_⟩)
      refine ⟨fun x u' => ∃ i : Nat, i ≤ X.desc.length ∧ x = (i : Int) ∧ X.desc.take i = Y.desc.take i ∧ Ext w7 u', fun x _ => ((X.desc.length : Int) - x).toNat, ⟨0, by omega, rfl, rfl, .refl _ _⟩, ?_⟩
      rintro _ u8 ⟨i, hi, rfl, hti, e8⟩
      refine brd (fun hlt => ?_) (fun hge => ?_)
      · have i1 : i < X.desc.length := by omega
        have i2 : i < Y.desc.length := by omega
        have x8 := x7.trans' e8
        obtain ⟨ad2, hA2, cs2, hrep2, hc2⟩ := (hD.ext KBo_pos x8).get1 i1
        obtain rfl : cs2 = [.bool X.desc[i]] := hrep2
        obtain ⟨ad3, hA3, cs3, hrep3, hc3⟩ := (hD'.ext KBo_pos x8).get1 i2
        obtain rfl : cs3 = [.bool Y.desc[i]] := hrep3
        refine ⟨fun v' => Ext u8 v', Fr.drew NoB u8, _, _, _, fun v k => (bx.ext (e8.trans' k)).cell rfl, ad2, hA2, ⟨by omega, by omega⟩, _, fun v k => Fr.cell k (fun h => h) (hc2 0 _ rfl),
          _, _, _, fun v k => (by_.ext (e8.trans' k)).cell rfl, ad3, hA3, ⟨by omega, by omega⟩, _, fun v k => Fr.cell k (fun h => h) (hc3 0 _ rfl), brn (fun hne => ?_) (fun hs => ?_)⟩
        · refine no _ (e7.trans' e8).drew (fun h => hne ?_)
          have := eq1 h
          subst this; rfl
        · rw [wi ((i : Int) + 1) (by omega) (by omega)]
          exact ⟨⟨i + 1, by omega, rfl, takes_step hti i1 i2 hs, e8.drew⟩, by dsimp only; omega⟩
      · have hdesc := takes_eq hti (by omega) (by omega)
        rw [wi ((j : Int) + 1) (by omega) (by omega)]
        refine ⟨⟨j + 1, by omega, rfl, takes_step nx h1 h2 ?_, (e.trans' x7).trans' e8⟩, by dsimp only; omega⟩
        rw [hX, hY]
        cases X; cases Y
        simp only at d1 d2 hdesc
        subst d1; subst d2; subst hdesc; rfl
  have q7 := takes_eq ht (by omega) (by omega)
  clear ht hge hj
  have e3 := e3.trans' e
  have bp := bp.ext e
  have bq := bq.ext e
  have hp := hp.ext e
  have hq := hq.ext e
  clear e
  repeat (first | refine ⟨_, Blk.cell (bp) (by rfl), ?_⟩ | refine ⟨_, _, _, Blk.cell (bp) (by rfl), ?_⟩)
  -- totals
  refine ⟨fun x v => ∃ j : Nat, j ≤ p.tots.length ∧ x = (j : Int) ∧ p.tots.take j = q.tots.take j ∧ Ext u2 v, fun x _ => ((p.tots.length : Int) - x).toNat, ⟨0, by omega, rfl, rfl, .refl _ _⟩, ?_⟩
  rintro _ u3 ⟨j, hj, rfl, ht, e⟩
  refine brd (fun hlt => ?_) (fun hge => ?_)
  · have h1 : j < p.tots.length := by omega
    have h2 : j < q.tots.length := by omega
    obtain ⟨ad, hA, cs, hrep, hc⟩ := at1 (hp.ext e).tots h1
    obtain rfl : cs = totC p.tots[j] := hrep
    obtain ⟨ad', hA', cs', hrep', hc'⟩ := at1 (hq.ext e).tots h2
    obtain rfl : cs' = totC q.tots[j] := hrep'
    refine ⟨fun v' => Ext u3 v', Fr.drew NoB u3, _, _, _, fun v k => (bp.ext (e.trans' k)).cell rfl, ad, hA, ⟨by omega, by omega⟩, _, fun v k => hc v k 0 _ rfl, _, fun v k => hc v k 1 _ rfl,
      _, _, _, fun v k => (bq.ext (e.trans' k)).cell rfl, ad', hA', ⟨by omega, by omega⟩, _, fun v k => hc' v k 0 _ rfl, _, fun v k => hc' v k 1 _ rfl, brf (by kernel_rfl) (brnb (fun hf => ?_) (fun hs => ?_))⟩
    · refine no _ (e3.trans' e).drew (fun h => ?_)
      subst h
      simp at hf
    · rw [wi ((j : Int) + 1) (by omega) (by omega)]
      refine ⟨⟨j + 1, by omega, rfl, takes_step ht h1 h2 ?_, e.drew⟩, by dsimp only; omega⟩
      simp only [Bool.and_eq_true, decide_eq_true_eq, str_iff, and_true] at hs
      generalize p.tots[j] = x at hs ⊢
      generalize q.tots[j] = y at hs ⊢
      cases x; cases y
      obtain ⟨r1, r2⟩ := hs
      simp only at r1 r2
      subst r1; subst r2; rfl
  have q8 := takes_eq ht (by omega) (by omega)
  clear ht hge hj
  have e3 := e3.trans' e
  have bp := bp.ext e
  have bq := bq.ext e
  have hp := hp.ext e
  have hq := hq.ext e
  clear e
  repeat (first | refine ⟨_, Blk.cell (bp) (by rfl), ?_⟩ | refine ⟨_, _, _, Blk.cell (bp) (by rfl), ?_⟩)
  -- the code
  refine ⟨fun x v => ∃ j : Nat, j ≤ p.code.length ∧ x = (j : Int) ∧ p.code.take j = q.code.take j ∧ Ext u3 v, fun x _ => ((p.code.length : Int) - x).toNat, ⟨0, by omega, rfl, rfl, .refl _ _⟩, ?_⟩
  rintro _ u4 ⟨j, hj, rfl, ht, e⟩
  refine brd (fun hlt => ?_) (fun hge => ?_)
  · have h1 : j < p.code.length := by omega
    have h2 : j < q.code.length := by omega
    obtain ⟨ad, hA, cs, hrep, hc⟩ := at1 (hp.ext e).code h1
    obtain rfl : cs = insC p.code[j] := hrep
    obtain ⟨ad', hA', cs', hrep', hc'⟩ := at1 (hq.ext e).code h2
    obtain rfl : cs' = insC q.code[j] := hrep'
    refine ⟨fun v' => Ext u4 v', Fr.drew NoB u4, _, _, _, fun v k => (bp.ext (e.trans' k)).cell rfl, ad, hA, ⟨by omega, by omega⟩, _, fun v k => hc v k 0 _ rfl, _, fun v k => hc v k 1 _ rfl, _, fun v k => hc v k 2 _ rfl, _, fun v k => hc v k 3 _ rfl, _, fun v k => hc v k 4 _ rfl,
      _, _, _, fun v k => (bq.ext (e.trans' k)).cell rfl, ad', hA', ⟨by omega, by omega⟩, _, fun v k => hc' v k 0 _ rfl, _, fun v k => hc' v k 1 _ rfl, _, fun v k => hc' v k 2 _ rfl, _, fun v k => hc' v k 3 _ rfl, _, fun v k => hc' v k 4 _ rfl, brf (by kernel_rfl) (brnb (fun hf => ?_) (fun hs => ?_))⟩
    · refine no _ (e3.trans' e).drew (fun h => ?_)
      subst h
      simp at hf
    · rw [wi ((j : Int) + 1) (by omega) (by omega)]
      refine ⟨⟨j + 1, by omega, rfl, takes_step ht h1 h2 ?_, e.drew⟩, by dsimp only; omega⟩
      simp only [Bool.and_eq_true, decide_eq_true_eq, str_iff, and_true] at hs
      generalize p.code[j] = x at hs ⊢
      generalize q.code[j] = y at hs ⊢
      cases x; cases y
      obtain ⟨r1, r2, r3, r4, r5⟩ := hs
      simp only at r1 r2 r3 r4 r5
      subst r1; subst r2; subst r3; subst r4; subst r5; rfl
  have q9 := takes_eq ht (by omega) (by omega)
  refine ⟨⟨true, rfl, fun _ => ?_, fun _ => rfl⟩, e3.trans' e⟩
  clear hb no hp hq bp bq gp
  cases p; cases q
  simp only at q1 q2 q3 q4 q5 q6 q7 q8 q9
  subst q1; subst q2; subst q3; subst q4; subst q5; subst q6; subst q7; subst q8; subst q9; rfl
end Go.Proofs.YtaifphjenebgoaaGreatDoor
