/- Part 7 of the texts of this claim: the engine, contracts, plain laws. -/
import Derived.Test.YtadlhdiejmilmaaProg
import Derived.Test.YtadlhdiejmilmaaZCPlays4P1
import Derived.Test.YtadlhdiejmilmaaZCPlays4P6
/- The preconditions of Go functions, printed by a program of this workplace (nests.py); each is proved to be the engine's own. -/
set_option linter.unusedVariables false
set_option maxRecDepth 100000
namespace Go.Proofs.Ytadlhdiejmilmaa
open Go Go.Sx
noncomputable def cardindexref04_Compare.W : Option Addr → Nat → Nat → Option Addr → Nat → Nat → World → (Value → World → Prop) → Prop := fun (a_A : Option Addr) (a_n a_c : Nat) (b_A : Option
 Addr) (b_n b_c : Nat) (w : World) (K : Value → World → Prop) => ∃ (J : World → Prop), (∀ (w : World), J w → bif Decidable.decide ((↑a_n : Int) < (↑b_n : Int)) then K (Value.int
 IntKind.i64 (-1 : Int)) w else bif Decidable.decide ((↑b_n : Int) < (↑a_n : Int)) then K (Value.int IntKind.i64 (1 : Int)) w else K (Value.int IntKind.i64 (0 : Int)) w) ∧ ∃ (I : Int →
 World → Prop), ∃ (μ : Int → World → Nat), I (0 : Int) w ∧ ∀ (x : Int) (w : World), I x w → bif Decidable.decide (x < (↑a_n : Int)) then bif Decidable.decide (x < (↑b_n : Int)) then ∃ (ad :
 Addr), a_A = Option.some ad ∧ ((0 : Int) ≤ x ∧ x < (↑a_n : Int)) ∧ ∃ (S : World → Prop), S (World.drew w) ∧ ∃ (x_1 : Int), (∀ (u : World), S u → World.cell? u (Addr.add ad (Int.toNat
 x * (1 : Nat))) = Option.some (Value.int IntKind.u8 x_1)) ∧ ∃ (ad : Addr), b_A = Option.some ad ∧ ((0 : Int) ≤ x ∧ x < (↑b_n : Int)) ∧ ∃ (x_2 : Int), (∀ (u : World), S u → World.cell? u
 (Addr.add ad (Int.toNat x * (1 : Nat))) = Option.some (Value.int IntKind.u8 x_2)) ∧ bif Decidable.decide (x_1 < x_2) then K (Value.int IntKind.i64 (-1 : Int)) (World.drew w) else ∃
 (ad : Addr), a_A = Option.some ad ∧ ((0 : Int) ≤ x ∧ x < (↑a_n : Int)) ∧ ∃ (S : World → Prop), S (World.drew (World.drew w)) ∧ ∃ (x_3 : Int), (∀ (u : World), S u → World.cell? u
 (Addr.add ad (Int.toNat x * (1 : Nat))) = Option.some (Value.int IntKind.u8 x_3)) ∧ ∃ (ad : Addr), b_A = Option.some ad ∧ ((0 : Int) ≤ x ∧ x < (↑b_n : Int)) ∧ ∃ (x_4 : Int), (∀ (u :
 World), S u → World.cell? u (Addr.add ad (Int.toNat x * (1 : Nat))) = Option.some (Value.int IntKind.u8 x_4)) ∧ bif Decidable.decide (x_4 < x_3) then K (Value.int IntKind.i64 (1 :
 Int)) (World.drew (World.drew w)) else I (IntKind.wrap IntKind.i64 (x + (1 : Int))) (World.drew (World.drew w)) ∧ μ (IntKind.wrap IntKind.i64 (x + (1 : Int))) (World.drew
 (World.drew w)) < μ x w else J w else J w
theorem cardindexref04_Compare.eq (a_A : Option Addr) (a_n : Nat) (a_c : Nat) (b_A : Option Addr) (b_n : Nat) (b_c : Nat) (w : World) (K : Value → World → Prop) : cardindexref04_Compare.W a_A a_n a_c b_A b_n b_c w K = fnW Try.prog Try.f65 (.named (.seq .auto (.join [] (.seq .auto (.block (.loop [(5, .one (.int .i64))] .auto))) .auto))) [.slice a_A a_n a_c, .slice b_A b_n b_c] w K := by kernel_rfl
theorem cardindexref04_Compare.calls (ok : Okay Try.prog) {a_A : Option Addr} {a_n : Nat} {a_c : Nat} {b_A : Option Addr} {b_n : Nat} {b_c : Nat} {w : World} {K : Value → World → Prop} (h : cardindexref04_Compare.W a_A a_n a_c b_A b_n b_c w K) : CallsV Try.prog 65 #[.slice a_A a_n a_c, .slice b_A b_n b_c] w K :=
  fnW_calls ok Try.func65 (an := (.named (.seq .auto (.join [] (.seq .auto (.block (.loop [(5, .one (.int .i64))] .auto))) .auto)))) (args := [.slice a_A a_n a_c, .slice b_A b_n b_c]) (by rw [← cardindexref04_Compare.eq]; exact h)
noncomputable def cardindexref04_Trees_Find.W : Option Addr → Nat → Nat → Int → Int → World → (Value → World → Prop) → Prop := fun (t0_A : Option Addr) (t0_n t0_c : Nat) (t1 root : Int) (w :
 World) (K : Value → World → Prop) => ∀ (g : Nat) (w' : World), Fresh w g w' [Value.slice t0_A t0_n t0_c, Value.int IntKind.i64 t1] (67 : Nat) → ∃ (I : Int → World → Prop),
 ∃ (μ : Int → World → Nat), I (0 : Int) w' ∧ ∀ (x : Int) (w : World), I x w → ∃ (x_1 : Option Addr), ∃ (x_2 : Nat), ∃ (x_3 : Nat), World.cell? w (Addr.add (Addr.mk g (0 : Nat)
 Option.none) (0 : Nat)) = Option.some (Value.slice x_1 x_2 x_3) ∧ bif Decidable.decide (x < (↑x_2 : Int)) then ∃ (x_4 : Option Addr), ∃ (x_5 : Nat), ∃ (x_6 : Nat), World.cell? w (Addr.add
 (Addr.mk g (0 : Nat) Option.none) (0 : Nat)) = Option.some (Value.slice x_4 x_5 x_6) ∧ ∃ (ad : Addr), x_4 = Option.some ad ∧ ((0 : Int) ≤ x ∧ x < (↑x_5 : Int)) ∧ ∃ (x_7 : Int), World.cell?
 w (Addr.add (Addr.add ad (Int.toNat x * (2 : Nat))) (0 : Nat)) = Option.some (Value.int IntKind.i64 x_7) ∧ bif Decidable.decide (x_7 = root) then K (Value.int IntKind.i64 x) w else I
 (IntKind.wrap IntKind.i64 (x + (1 : Int))) w ∧ μ (IntKind.wrap IntKind.i64 (x + (1 : Int))) w < μ x w else K (Value.int IntKind.i64 (-1 : Int)) w
theorem cardindexref04_Trees_Find.eq (t0_A : Option Addr) (t0_n : Nat) (t0_c : Nat) (t1 : Int) (root : Int) (w : World) (K : Value → World → Prop) : cardindexref04_Trees_Find.W t0_A t0_n t0_c t1 root w K = fnW Try.prog Try.f35 (.named (.seq .auto (.seq (.seq .auto (.block (.loop [(5, .one (.int .i64))] .auto))) .auto))) [.agg #[.slice t0_A t0_n t0_c, .int .i64 t1], .int .i64 root] w K := by kernel_rfl
theorem cardindexref04_Trees_Find.calls (ok : Okay Try.prog) {t0_A : Option Addr} {t0_n : Nat} {t0_c : Nat} {t1 : Int} {root : Int} {w : World} {K : Value → World → Prop} (h : cardindexref04_Trees_Find.W t0_A t0_n t0_c t1 root w K) : CallsV Try.prog 35 #[.agg #[.slice t0_A t0_n t0_c, .int .i64 t1], .int .i64 root] w K :=
  fnW_calls ok Try.func35 (an := (.named (.seq .auto (.seq (.seq .auto (.block (.loop [(5, .one (.int .i64))] .auto))) .auto)))) (args := [.agg #[.slice t0_A t0_n t0_c, .int .i64 t1], .int .i64 root]) (by rw [← cardindexref04_Trees_Find.eq]; exact h)
noncomputable def cardindexref04_Trees_with.W : Option Addr → Nat → Nat → Int → Int → Option Addr → Nat → Nat → World → (Value → World → Prop) → Prop := fun (t0_A : Option Addr) (t0_n t0_c : Nat)
 (t1 atx : Int) (l_A : Option Addr) (l_n l_c : Nat) (w : World) (K : Value → World → Prop) => ∀ (g : Nat) (w' : World), Fresh w g w' [Value.slice t0_A t0_n t0_c, Value.int
 IntKind.i64 t1] (67 : Nat) → ∀ (g_1 : Nat) (w'_1 : World), Fresh w' g_1 w'_1 [Value.slice Option.none (0 : Nat) (0 : Nat), Value.int IntKind.i64 (0 : Int)] (67 : Nat) → ∃ (I :
 Option Addr → Nat → Nat → Int → World → Prop), ∃ (μ : Option Addr → Nat → Nat → Int → World → Nat), I Option.none (0 : Nat) (0 : Nat) (0 : Int) w'_1 ∧ ∀ (x : Option Addr) (x_1 x_2 : Nat)
 (x_3 : Int) (w : World), I x x_1 x_2 x_3 w → ∃ (x_4 : Option Addr), ∃ (x_5 : Nat), ∃ (x_6 : Nat), World.cell? w (Addr.add (Addr.mk g (0 : Nat) Option.none) (0 : Nat)) = Option.some
 (Value.slice x_4 x_5 x_6) ∧ bif Decidable.decide (x_3 < (↑x_5 : Int)) then ∃ (x_7 : Option Addr), ∃ (x_8 : Nat), ∃ (x_9 : Nat), World.cell? w (Addr.add (Addr.mk g (0 : Nat) Option.none)
 (0 : Nat)) = Option.some (Value.slice x_7 x_8 x_9) ∧ ∃ (ad : Addr), x_7 = Option.some ad ∧ ((0 : Int) ≤ x_3 ∧ x_3 < (↑x_8 : Int)) ∧ ∃ (x_10 : Int), World.cell? w (Addr.add (Addr.add ad
 (Int.toNat x_3 * (2 : Nat))) (0 : Nat)) = Option.some (Value.int IntKind.i64 x_10) ∧ ∃ (x_11 : Option Addr), ∃ (x_12 : Nat), ∃ (x_13 : Nat), World.cell? w (Addr.add (Addr.add ad
 (Int.toNat x_3 * (2 : Nat))) (1 : Nat)) = Option.some (Value.slice x_11 x_12 x_13) ∧ ∀ (g : Nat) (w' : World), Fresh w g w' [Value.int IntKind.i64 (0 : Int), Value.slice
 Option.none (0 : Nat) (0 : Nat)] (82 : Nat) → stOK (Addr.mk g (0 : Nat) Option.none) (0 : Nat) [Value.int IntKind.i64 x_10, Value.slice x_11 x_12 x_13] w' ∧ ∀ (w'_2 : World), w'_2
 = setAll (Addr.mk g (0 : Nat) Option.none) (0 : Nat) [Value.int IntKind.i64 x_10, Value.slice x_11 x_12 x_13] w' → bif Decidable.decide (x_3 = atx) then stOK (Addr.add
 (Addr.mk g (0 : Nat) Option.none) (1 : Nat)) (0 : Nat) [Value.slice l_A l_n l_c] w'_2 ∧ ∀ (w' : World), w' = setAll (Addr.add (Addr.mk g (0 : Nat) Option.none) (1 : Nat)) (0 : Nat)
 [Value.slice l_A l_n l_c] w'_2 → ∃ (x_14 : Int), World.cell? w' (Addr.add (Addr.mk g (0 : Nat) Option.none) (0 : Nat)) = Option.some (Value.int IntKind.i64 x_14) ∧ ∃ (x_15 : Option
 Addr), ∃ (x_16 : Nat), ∃ (x_17 : Nat), World.cell? w' (Addr.add (Addr.mk g (0 : Nat) Option.none) (1 : Nat)) = Option.some (Value.slice x_15 x_16 x_17) ∧ ∀ (g : Nat) (w'_3 : World),
 Fresh w' g w'_3 [Value.int IntKind.i64 x_14, Value.slice x_15 x_16 x_17] (82 : Nat) → ∃ (x_18 : Option Addr), ∃ (x_19 : Nat), ∃ (x_20 : Nat), ∃ (w' : World), RunsTo
 Try.prog (Builtin.append_ (Array.mk [(65 : Nat), (65 : Nat)]) (65 : Nat) #[Value.slice x x_1 x_2, Value.slice (Option.some (Addr.mk g (0 : Nat) Option.none)) (1 : Nat) (1 : Nat)])
 w'_3 (Value.slice x_18 x_19 x_20) w' ∧ I x_18 x_19 x_20 (IntKind.wrap IntKind.i64 (x_3 + (1 : Int))) w' ∧ μ x_18 x_19 x_20 (IntKind.wrap IntKind.i64 (x_3 + (1 : Int))) w' < μ x x_1 x_2
 x_3 w else ∃ (x_14 : Int), World.cell? w'_2 (Addr.add (Addr.mk g (0 : Nat) Option.none) (0 : Nat)) = Option.some (Value.int IntKind.i64 x_14) ∧ ∃ (x_15 : Option Addr), ∃ (x_16 : Nat),
 ∃ (x_17 : Nat), World.cell? w'_2 (Addr.add (Addr.mk g (0 : Nat) Option.none) (1 : Nat)) = Option.some (Value.slice x_15 x_16 x_17) ∧ ∀ (g : Nat) (w' : World), Fresh w'_2 g w'
 [Value.int IntKind.i64 x_14, Value.slice x_15 x_16 x_17] (82 : Nat) → ∃ (x_18 : Option Addr), ∃ (x_19 : Nat), ∃ (x_20 : Nat), ∃ (w'_3 : World), RunsTo Try.prog
 (Builtin.append_ (Array.mk [(65 : Nat), (65 : Nat)]) (65 : Nat) #[Value.slice x x_1 x_2, Value.slice (Option.some (Addr.mk g (0 : Nat) Option.none)) (1 : Nat) (1 : Nat)]) w' (Value.slice
 x_18 x_19 x_20) w'_3 ∧ I x_18 x_19 x_20 (IntKind.wrap IntKind.i64 (x_3 + (1 : Int))) w'_3 ∧ μ x_18 x_19 x_20 (IntKind.wrap IntKind.i64 (x_3 + (1 : Int))) w'_3 < μ x x_1 x_2 x_3 w else
 stOK (Addr.add (Addr.mk g (0 : Nat) Option.none) (0 : Nat)) (0 : Nat) [Value.slice x x_1 x_2] w ∧ ∀ (w' : World), w' = setAll (Addr.add (Addr.mk g (0 : Nat) Option.none)
 (0 : Nat)) (0 : Nat) [Value.slice x x_1 x_2] w → ∃ (x : Option Addr), ∃ (x_7 : Nat), ∃ (x_8 : Nat), World.cell? w' (Addr.add (Addr.mk g (0 : Nat) Option.none) (0 : Nat)) = Option.some
 (Value.slice x x_7 x_8) ∧ ∃ (x_9 : Int), World.cell? w' (Addr.add (Addr.mk g (0 : Nat) Option.none) (1 : Nat)) = Option.some (Value.int IntKind.i64 x_9) ∧ stOK (Addr.mk g_1
 (0 : Nat) Option.none) (0 : Nat) [Value.slice x x_7 x_8, Value.int IntKind.i64 x_9] w' ∧ ∀ (w'_2 : World), w'_2 = setAll (Addr.mk g_1 (0 : Nat) Option.none) (0 : Nat)
 [Value.slice x x_7 x_8, Value.int IntKind.i64 x_9] w' → ∃ (x : Option Addr), ∃ (x_10 : Nat), ∃ (x_11 : Nat), World.cell? w'_2 (Addr.add (Addr.mk g_1 (0 : Nat) Option.none) (0 :
 Nat)) = Option.some (Value.slice x x_10 x_11) ∧ ∃ (x_12 : Int), World.cell? w'_2 (Addr.add (Addr.mk g_1 (0 : Nat) Option.none) (1 : Nat)) = Option.some (Value.int IntKind.i64 x_12) ∧
 K (Value.agg #[Value.slice x x_10 x_11, Value.int IntKind.i64 x_12]) w'_2
theorem cardindexref04_Trees_with.eq (t0_A : Option Addr) (t0_n : Nat) (t0_c : Nat) (t1 : Int) (atx : Int) (l_A : Option Addr) (l_n : Nat) (l_c : Nat) (w : World) (K : Value → World → Prop) : cardindexref04_Trees_with.W t0_A t0_n t0_c t1 atx l_A l_n l_c w K = fnW Try.prog Try.f66 (.named (.seq .auto (.seq .auto (.seq (.seq .auto (.block (.loop [(7, .one .slc), (8, .one (.int .i64))] .auto))) .auto)))) [.agg #[.slice t0_A t0_n t0_c, .int .i64 t1], .int .i64 atx, .slice l_A l_n l_c] w K := by kernel_rfl
theorem cardindexref04_Trees_with.calls (ok : Okay Try.prog) {t0_A : Option Addr} {t0_n : Nat} {t0_c : Nat} {t1 : Int} {atx : Int} {l_A : Option Addr} {l_n : Nat} {l_c : Nat} {w : World} {K : Value → World → Prop} (h : cardindexref04_Trees_with.W t0_A t0_n t0_c t1 atx l_A l_n l_c w K) : CallsV Try.prog 66 #[.agg #[.slice t0_A t0_n t0_c, .int .i64 t1], .int .i64 atx, .slice l_A l_n l_c] w K :=
  fnW_calls ok Try.func66 (an := (.named (.seq .auto (.seq .auto (.seq (.seq .auto (.block (.loop [(7, .one .slc), (8, .one (.int .i64))] .auto))) .auto))))) (args := [.agg #[.slice t0_A t0_n t0_c, .int .i64 t1], .int .i64 atx, .slice l_A l_n l_c]) (by rw [← cardindexref04_Trees_with.eq]; exact h)
noncomputable def cardindexref04_Trees_Create.W : Option Addr → Nat → Nat → Int → World → (Value → World → Prop) → Prop := fun (t0_A : Option Addr) (t0_n t0_c : Nat) (t1 : Int) (w : World) (K :
 Value → World → Prop) => ∀ (g : Nat) (w' : World), Fresh w g w' [Value.slice t0_A t0_n t0_c, Value.int IntKind.i64 t1] (67 : Nat) → ∀ (g_1 : Nat) (w'_1 : World), Fresh
 w' g_1 w'_1 [Value.slice Option.none (0 : Nat) (0 : Nat), Value.int IntKind.i64 (0 : Int)] (67 : Nat) → ∃ (x : Option Addr), ∃ (x_1 : Nat), ∃ (x_2 : Nat), World.cell? w'_1 (Addr.add
 (Addr.mk g (0 : Nat) Option.none) (0 : Nat)) = Option.some (Value.slice x x_1 x_2) ∧ ∃ (x_3 : Option Addr), ∃ (x_4 : Nat), ∃ (x_5 : Nat), ∃ (w' : World), RunsTo Try.prog
 (Builtin.append_ (Array.mk [(65 : Nat), (65 : Nat)]) (65 : Nat) #[Value.slice Option.none (0 : Nat) (0 : Nat), Value.slice x x_1 x_2]) w'_1 (Value.slice x_3 x_4 x_5) w' ∧ ∃ (x : Int),
 World.cell? w' (Addr.add (Addr.mk g (0 : Nat) Option.none) (1 : Nat)) = Option.some (Value.int IntKind.i64 x) ∧ stOK (Addr.add (Addr.mk g (0 : Nat) Option.none) (1 : Nat)) (0
 : Nat) [Value.int IntKind.i64 (IntKind.wrap IntKind.i64 (x + (1 : Int)))] w' ∧ ∀ (w'_2 : World), w'_2 = setAll (Addr.add (Addr.mk g (0 : Nat) Option.none) (1 : Nat)) (0 :
 Nat) [Value.int IntKind.i64 (IntKind.wrap IntKind.i64 (x + (1 : Int)))] w' → ∃ (x : Int), World.cell? w'_2 (Addr.add (Addr.mk g (0 : Nat) Option.none) (1 : Nat)) = Option.some
 (Value.int IntKind.i64 x) ∧ ∀ (g_2 : Nat) (w' : World), Fresh w'_2 g_2 w' [Value.int IntKind.i64 x, Value.slice Option.none (0 : Nat) (0 : Nat)] (82 : Nat) → ∃ (x : Option
 Addr), ∃ (x_6 : Nat), ∃ (x_7 : Nat), ∃ (w'_3 : World), RunsTo Try.prog (Builtin.append_ (Array.mk [(65 : Nat), (65 : Nat)]) (65 : Nat) #[Value.slice x_3 x_4 x_5,
 Value.slice (Option.some (Addr.mk g_2 (0 : Nat) Option.none)) (1 : Nat) (1 : Nat)]) w' (Value.slice x x_6 x_7) w'_3 ∧ stOK (Addr.add (Addr.mk g (0 : Nat) Option.none) (0 : Nat)) (0
 : Nat) [Value.slice x x_6 x_7] w'_3 ∧ ∀ (w' : World), w' = setAll (Addr.add (Addr.mk g (0 : Nat) Option.none) (0 : Nat)) (0 : Nat) [Value.slice x x_6 x_7] w'_3 → ∃ (x : Option
 Addr), ∃ (x_8 : Nat), ∃ (x_9 : Nat), World.cell? w' (Addr.add (Addr.mk g (0 : Nat) Option.none) (0 : Nat)) = Option.some (Value.slice x x_8 x_9) ∧ ∃ (x_10 : Int), World.cell? w'
 (Addr.add (Addr.mk g (0 : Nat) Option.none) (1 : Nat)) = Option.some (Value.int IntKind.i64 x_10) ∧ stOK (Addr.mk g_1 (0 : Nat) Option.none) (0 : Nat) [Value.slice x x_8 x_9,
 Value.int IntKind.i64 x_10] w' ∧ ∀ (w'_4 : World), w'_4 = setAll (Addr.mk g_1 (0 : Nat) Option.none) (0 : Nat) [Value.slice x x_8 x_9, Value.int IntKind.i64 x_10] w' → ∃ (x :
 Option Addr), ∃ (x_11 : Nat), ∃ (x_12 : Nat), World.cell? w'_4 (Addr.add (Addr.mk g_1 (0 : Nat) Option.none) (0 : Nat)) = Option.some (Value.slice x x_11 x_12) ∧ ∃ (x_13 : Int),
 World.cell? w'_4 (Addr.add (Addr.mk g_1 (0 : Nat) Option.none) (1 : Nat)) = Option.some (Value.int IntKind.i64 x_13) ∧ K (Value.agg #[Value.slice x x_11 x_12, Value.int
 IntKind.i64 x_13]) w'_4
theorem cardindexref04_Trees_Create.eq (t0_A : Option Addr) (t0_n : Nat) (t0_c : Nat) (t1 : Int) (w : World) (K : Value → World → Prop) : cardindexref04_Trees_Create.W t0_A t0_n t0_c t1 w K = fnW Try.prog Try.f40 (.named .auto) [.agg #[.slice t0_A t0_n t0_c, .int .i64 t1]] w K := by kernel_rfl
theorem cardindexref04_Trees_Create.calls (ok : Okay Try.prog) {t0_A : Option Addr} {t0_n : Nat} {t0_c : Nat} {t1 : Int} {w : World} {K : Value → World → Prop} (h : cardindexref04_Trees_Create.W t0_A t0_n t0_c t1 w K) : CallsV Try.prog 40 #[.agg #[.slice t0_A t0_n t0_c, .int .i64 t1]] w K :=
  fnW_calls ok Try.func40 (an := (.named .auto)) (args := [.agg #[.slice t0_A t0_n t0_c, .int .i64 t1]]) (by rw [← cardindexref04_Trees_Create.eq]; exact h)
noncomputable def cardindexref04_Trees_Drop.W : Option Addr → Nat → Nat → Int → Int → World → (Value → World → Prop) → Prop := fun (t0_A : Option Addr) (t0_n t0_c : Nat) (t1 atx : Int) (w :
 World) (K : Value → World → Prop) => ∀ (g : Nat) (w' : World), Fresh w g w' [Value.slice t0_A t0_n t0_c, Value.int IntKind.i64 t1] (67 : Nat) → ∀ (g_1 : Nat) (w'_1 :
 World), Fresh w' g_1 w'_1 [Value.slice Option.none (0 : Nat) (0 : Nat), Value.int IntKind.i64 (0 : Int)] (67 : Nat) → ∃ (I : Option Addr → Nat → Nat → Int → World → Prop), ∃ (μ
 : Option Addr → Nat → Nat → Int → World → Nat), I Option.none (0 : Nat) (0 : Nat) (0 : Int) w'_1 ∧ ∀ (x : Option Addr) (x_1 x_2 : Nat) (x_3 : Int) (w : World), I x x_1 x_2 x_3 w → ∃ (x_4 :
 Option Addr), ∃ (x_5 : Nat), ∃ (x_6 : Nat), World.cell? w (Addr.add (Addr.mk g (0 : Nat) Option.none) (0 : Nat)) = Option.some (Value.slice x_4 x_5 x_6) ∧ bif Decidable.decide (x_3 <
 (↑x_5 : Int)) then bif !Decidable.decide (x_3 = atx) then ∃ (x_7 : Option Addr), ∃ (x_8 : Nat), ∃ (x_9 : Nat), World.cell? w (Addr.add (Addr.mk g (0 : Nat) Option.none) (0 : Nat)) =
 Option.some (Value.slice x_7 x_8 x_9) ∧ ∃ (ad : Addr), x_7 = Option.some ad ∧ ((0 : Int) ≤ x_3 ∧ x_3 < (↑x_8 : Int)) ∧ ∃ (x_10 : Int), World.cell? w (Addr.add (Addr.add ad (Int.toNat x_3
 * (2 : Nat))) (0 : Nat)) = Option.some (Value.int IntKind.i64 x_10) ∧ ∃ (x_11 : Option Addr), ∃ (x_12 : Nat), ∃ (x_13 : Nat), World.cell? w (Addr.add (Addr.add ad (Int.toNat x_3 * (2
 : Nat))) (1 : Nat)) = Option.some (Value.slice x_11 x_12 x_13) ∧ ∀ (g : Nat) (w' : World), Fresh w g w' [Value.int IntKind.i64 x_10, Value.slice x_11 x_12 x_13] (82 : Nat) → ∃
 (x_14 : Option Addr), ∃ (x_15 : Nat), ∃ (x_16 : Nat), ∃ (w'_2 : World), RunsTo Try.prog (Builtin.append_ (Array.mk [(65 : Nat), (65 : Nat)]) (65 : Nat) #[Value.slice x x_1
 x_2, Value.slice (Option.some (Addr.mk g (0 : Nat) Option.none)) (1 : Nat) (1 : Nat)]) w' (Value.slice x_14 x_15 x_16) w'_2 ∧ I x_14 x_15 x_16 (IntKind.wrap IntKind.i64 (x_3 + (1 :
 Int))) w'_2 ∧ μ x_14 x_15 x_16 (IntKind.wrap IntKind.i64 (x_3 + (1 : Int))) w'_2 < μ x x_1 x_2 x_3 w else I x x_1 x_2 (IntKind.wrap IntKind.i64 (x_3 + (1 : Int))) w ∧ μ x x_1 x_2
 (IntKind.wrap IntKind.i64 (x_3 + (1 : Int))) w < μ x x_1 x_2 x_3 w else stOK (Addr.add (Addr.mk g (0 : Nat) Option.none) (0 : Nat)) (0 : Nat) [Value.slice x x_1 x_2] w ∧ ∀ (w' :
 World), w' = setAll (Addr.add (Addr.mk g (0 : Nat) Option.none) (0 : Nat)) (0 : Nat) [Value.slice x x_1 x_2] w → ∃ (x : Option Addr), ∃ (x_7 : Nat), ∃ (x_8 : Nat), World.cell?
 w' (Addr.add (Addr.mk g (0 : Nat) Option.none) (0 : Nat)) = Option.some (Value.slice x x_7 x_8) ∧ ∃ (x_9 : Int), World.cell? w' (Addr.add (Addr.mk g (0 : Nat) Option.none) (1 : Nat))
 = Option.some (Value.int IntKind.i64 x_9) ∧ stOK (Addr.mk g_1 (0 : Nat) Option.none) (0 : Nat) [Value.slice x x_7 x_8, Value.int IntKind.i64 x_9] w' ∧ ∀ (w'_2 : World), w'_2
 = setAll (Addr.mk g_1 (0 : Nat) Option.none) (0 : Nat) [Value.slice x x_7 x_8, Value.int IntKind.i64 x_9] w' → ∃ (x : Option Addr), ∃ (x_10 : Nat), ∃ (x_11 : Nat), World.cell?
 w'_2 (Addr.add (Addr.mk g_1 (0 : Nat) Option.none) (0 : Nat)) = Option.some (Value.slice x x_10 x_11) ∧ ∃ (x_12 : Int), World.cell? w'_2 (Addr.add (Addr.mk g_1 (0 : Nat) Option.none)
 (1 : Nat)) = Option.some (Value.int IntKind.i64 x_12) ∧ K (Value.agg #[Value.slice x x_10 x_11, Value.int IntKind.i64 x_12]) w'_2
theorem cardindexref04_Trees_Drop.eq (t0_A : Option Addr) (t0_n : Nat) (t0_c : Nat) (t1 : Int) (atx : Int) (w : World) (K : Value → World → Prop) : cardindexref04_Trees_Drop.W t0_A t0_n t0_c t1 atx w K = fnW Try.prog Try.f41 (.named (.seq .auto (.seq .auto (.seq (.seq .auto (.block (.loop [(5, .one .slc), (6, .one (.int .i64))] .auto))) .auto)))) [.agg #[.slice t0_A t0_n t0_c, .int .i64 t1], .int .i64 atx] w K := by kernel_rfl
theorem cardindexref04_Trees_Drop.calls (ok : Okay Try.prog) {t0_A : Option Addr} {t0_n : Nat} {t0_c : Nat} {t1 : Int} {atx : Int} {w : World} {K : Value → World → Prop} (h : cardindexref04_Trees_Drop.W t0_A t0_n t0_c t1 atx w K) : CallsV Try.prog 41 #[.agg #[.slice t0_A t0_n t0_c, .int .i64 t1], .int .i64 atx] w K :=
  fnW_calls ok Try.func41 (an := (.named (.seq .auto (.seq .auto (.seq (.seq .auto (.block (.loop [(5, .one .slc), (6, .one (.int .i64))] .auto))) .auto))))) (args := [.agg #[.slice t0_A t0_n t0_c, .int .i64 t1], .int .i64 atx]) (by rw [← cardindexref04_Trees_Drop.eq]; exact h)
noncomputable def cardindexref04_Trees_Place.W : Option Addr → Nat → Nat → Int → Int → Option Addr → Nat → Nat → World → (Value → World → Prop) → Prop := fun (t0_A : Option Addr) (t0_n t0_c : Nat)
 (t1 atx : Int) (key_A : Option Addr) (key_n key_c : Nat) (w : World) (K : Value → World → Prop) => ∀ (g : Nat) (w' : World), Fresh w g w' [Value.slice t0_A t0_n t0_c,
 Value.int IntKind.i64 t1] (67 : Nat) → ∃ (x : Option Addr), ∃ (x_1 : Nat), ∃ (x_2 : Nat), World.cell? w' (Addr.add (Addr.mk g (0 : Nat) Option.none) (0 : Nat)) = Option.some
 (Value.slice x x_1 x_2) ∧ ∃ (ad : Addr), x = Option.some ad ∧ ((0 : Int) ≤ atx ∧ atx < (↑x_1 : Int)) ∧ ∃ (x : Option Addr), ∃ (x_3 : Nat), ∃ (x_4 : Nat), World.cell? w' (Addr.add
 (Addr.add ad (Int.toNat atx * (2 : Nat))) (1 : Nat)) = Option.some (Value.slice x x_3 x_4) ∧ ∃ (J : Int → World → Prop), (∀ (x_5 : Int) (w : World), J x_5 w → bif Decidable.decide (x_5 <
 (↑x_3 : Int)) then ∃ (ad : Addr), x = Option.some ad ∧ ((0 : Int) ≤ x_5 ∧ x_5 < (↑x_3 : Int)) ∧ ∃ (x : Option Addr), ∃ (x_6 : Nat), ∃ (x_7 : Nat), World.cell? w (Addr.add (Addr.add ad
 (Int.toNat x_5 * (2 : Nat))) (0 : Nat)) = Option.some (Value.slice x x_6 x_7) ∧ CallsV Try.prog (65 : Nat) #[Value.slice x x_6 x_7, Value.slice key_A key_n key_c] w fun (v :
 Value) (w' : World) => ∃ (x : Int), v = Value.int IntKind.i64 x ∧ K (Value.tuple #[Value.int IntKind.i64 x_5, Value.bool (Decidable.decide (x = (0 : Int)))]) w' else K
 (Value.tuple #[Value.int IntKind.i64 x_5, Value.bool Bool.false]) w) ∧ ∃ (I : Int → World → Prop), ∃ (μ : Int → World → Nat), I (0 : Int) w' ∧ ∀ (x_5 : Int) (w : World), I x_5 w →
 bif Decidable.decide (x_5 < (↑x_3 : Int)) then ∃ (ad : Addr), x = Option.some ad ∧ ((0 : Int) ≤ x_5 ∧ x_5 < (↑x_3 : Int)) ∧ ∃ (x : Option Addr), ∃ (x_6 : Nat), ∃ (x_7 : Nat), World.cell? w
 (Addr.add (Addr.add ad (Int.toNat x_5 * (2 : Nat))) (0 : Nat)) = Option.some (Value.slice x x_6 x_7) ∧ CallsV Try.prog (65 : Nat) #[Value.slice x x_6 x_7, Value.slice
 key_A key_n key_c] w fun (v : Value) (w' : World) => ∃ (x : Int), v = Value.int IntKind.i64 x ∧ bif Decidable.decide (x < (0 : Int)) then I (IntKind.wrap IntKind.i64 (x_5 + (1 :
 Int))) w' ∧ μ (IntKind.wrap IntKind.i64 (x_5 + (1 : Int))) w' < μ x_5 w else J x_5 w' else J x_5 w
theorem cardindexref04_Trees_Place.eq (t0_A : Option Addr) (t0_n : Nat) (t0_c : Nat) (t1 : Int) (atx : Int) (key_A : Option Addr) (key_n : Nat) (key_c : Nat) (w : World) (K : Value → World → Prop) : cardindexref04_Trees_Place.W t0_A t0_n t0_c t1 atx key_A key_n key_c w K = fnW Try.prog Try.f37 (.named (.seq .auto (.seq .auto (.seq .auto (.join [(9, .one (.int .i64))] (.block (.loop [(9, .one (.int .i64))] .auto)) .auto))))) [.agg #[.slice t0_A t0_n t0_c, .int .i64 t1], .int .i64 atx, .slice key_A key_n key_c] w K := by kernel_rfl
theorem cardindexref04_Trees_Place.calls (ok : Okay Try.prog) {t0_A : Option Addr} {t0_n : Nat} {t0_c : Nat} {t1 : Int} {atx : Int} {key_A : Option Addr} {key_n : Nat} {key_c : Nat} {w : World} {K : Value → World → Prop} (h : cardindexref04_Trees_Place.W t0_A t0_n t0_c t1 atx key_A key_n key_c w K) : CallsV Try.prog 37 #[.agg #[.slice t0_A t0_n t0_c, .int .i64 t1], .int .i64 atx, .slice key_A key_n key_c] w K :=
  fnW_calls ok Try.func37 (an := (.named (.seq .auto (.seq .auto (.seq .auto (.join [(9, .one (.int .i64))] (.block (.loop [(9, .one (.int .i64))] .auto)) .auto)))))) (args := [.agg #[.slice t0_A t0_n t0_c, .int .i64 t1], .int .i64 atx, .slice key_A key_n key_c]) (by rw [← cardindexref04_Trees_Place.eq]; exact h)
noncomputable def cardindexref04_Trees_Put.W : Option Addr → Nat → Nat → Int → Int → Option Addr → Nat → Nat → Option Addr → Nat → Nat → World → (Value → World → Prop) → Prop := fun (t0_A : Option
 Addr) (t0_n t0_c : Nat) (t1 atx : Int) (key_A : Option Addr) (key_n key_c : Nat) (val_A : Option Addr) (val_n val_c : Nat) (w : World) (K : Value → World → Prop) => ∀ (g : Nat) (w' :
 World), Fresh w g w' [Value.slice t0_A t0_n t0_c, Value.int IntKind.i64 t1] (67 : Nat) → ∀ (g_1 : Nat) (w'_1 : World), Fresh w' g_1 w'_1 [Value.slice Option.none (0 : Nat)
 (0 : Nat), Value.int IntKind.i64 (0 : Int)] (67 : Nat) → ∃ (x : Option Addr), ∃ (x_1 : Nat), ∃ (x_2 : Nat), World.cell? w'_1 (Addr.add (Addr.mk g (0 : Nat) Option.none) (0 : Nat)) =
 Option.some (Value.slice x x_1 x_2) ∧ ∃ (x_3 : Int), World.cell? w'_1 (Addr.add (Addr.mk g (0 : Nat) Option.none) (1 : Nat)) = Option.some (Value.int IntKind.i64 x_3) ∧ CallsV
 Try.prog (37 : Nat) #[Value.agg #[Value.slice x x_1 x_2, Value.int IntKind.i64 x_3], Value.int IntKind.i64 atx, Value.slice key_A key_n key_c] w'_1 fun (v : Value) (w'
 : World) => ∃ (x : Int), ∃ (x_4 : Bool), v = Value.tuple #[Value.int IntKind.i64 x, Value.bool x_4] ∧ ∃ (x_5 : Option Addr), ∃ (x_6 : Nat), ∃ (x_7 : Nat), ∃ (w'_2 : World),
 RunsTo Try.prog (Builtin.append_ (Array.mk [(36 : Nat), (36 : Nat)]) (36 : Nat) #[Value.slice Option.none (0 : Nat) (0 : Nat), Value.slice key_A key_n key_c]) w'
 (Value.slice x_5 x_6 x_7) w'_2 ∧ ∃ (x_8 : Option Addr), ∃ (x_9 : Nat), ∃ (x_10 : Nat), ∃ (w' : World), RunsTo Try.prog (Builtin.append_ (Array.mk [(36 : Nat), (36 : Nat)])
 (36 : Nat) #[Value.slice Option.none (0 : Nat) (0 : Nat), Value.slice val_A val_n val_c]) w'_2 (Value.slice x_8 x_9 x_10) w' ∧ ∀ (g_2 : Nat) (w'_3 : World), Fresh w' g_2 w'_3
 [Value.slice Option.none (0 : Nat) (0 : Nat), Value.slice Option.none (0 : Nat) (0 : Nat)] (119 : Nat) → stOK (Addr.mk g_2 (0 : Nat) Option.none) (0 : Nat) [Value.slice x_5 x_6 x_7,
 Value.slice x_8 x_9 x_10] w'_3 ∧ ∀ (w' : World), w' = setAll (Addr.mk g_2 (0 : Nat) Option.none) (0 : Nat) [Value.slice x_5 x_6 x_7, Value.slice x_8 x_9 x_10] w'_3 → ∃ (x_11 :
 Option Addr), ∃ (x_12 : Nat), ∃ (x_13 : Nat), World.cell? w' (Addr.add (Addr.mk g (0 : Nat) Option.none) (0 : Nat)) = Option.some (Value.slice x_11 x_12 x_13) ∧ ∃ (ad : Addr), x_11 =
 Option.some ad ∧ ((0 : Int) ≤ atx ∧ atx < (↑x_12 : Int)) ∧ ∃ (x_14 : Option Addr), ∃ (x_15 : Nat), ∃ (x_16 : Nat), World.cell? w' (Addr.add (Addr.add ad (Int.toNat atx * (2 : Nat))) (1 :
 Nat)) = Option.some (Value.slice x_14 x_15 x_16) ∧ ((0 : Int) ≤ x ∧ x ≤ (↑x_16 : Int)) ∧ ∃ (x_17 : Option Addr), ∃ (x_18 : Nat), ∃ (x_19 : Nat), ∃ (w'_4 : World), RunsTo
 Try.prog (Builtin.append_ (Array.mk [(80 : Nat), (80 : Nat)]) (80 : Nat) #[Value.slice Option.none (0 : Nat) (0 : Nat), Value.slice (cutAt x_14 x_16 (0 : Nat) (2 : Nat))
 (Int.toNat x - (0 : Nat)) (x_16 - (0 : Nat))]) w' (Value.slice x_17 x_18 x_19) w'_4 ∧ ∃ (x_20 : Option Addr), ∃ (x_21 : Nat), ∃ (x_22 : Nat), World.cell? w'_4 (Addr.add (Addr.mk g_2 (0 :
 Nat) Option.none) (0 : Nat)) = Option.some (Value.slice x_20 x_21 x_22) ∧ ∃ (x_23 : Option Addr), ∃ (x_24 : Nat), ∃ (x_25 : Nat), World.cell? w'_4 (Addr.add (Addr.mk g_2 (0 : Nat)
 Option.none) (1 : Nat)) = Option.some (Value.slice x_23 x_24 x_25) ∧ ∀ (g_3 : Nat) (w' : World), Fresh w'_4 g_3 w' [Value.slice x_20 x_21 x_22, Value.slice x_23 x_24 x_25] (119 : Nat)
 → ∃ (x_26 : Option Addr), ∃ (x_27 : Nat), ∃ (x_28 : Nat), ∃ (w'_5 : World), RunsTo Try.prog (Builtin.append_ (Array.mk [(80 : Nat), (80 : Nat)]) (80 : Nat) #[Value.slice
 x_17 x_18 x_19, Value.slice (Option.some (Addr.mk g_3 (0 : Nat) Option.none)) (1 : Nat) (1 : Nat)]) w' (Value.slice x_26 x_27 x_28) w'_5 ∧ ∃ (J : Int → World → Prop), (∀ (x : Int) (w :
 World), J x w → ∃ (S : World → Prop), S (World.drew w) ∧ ∃ (x_29 : Option Addr), ∃ (x_30 : Nat), ∃ (x_31 : Nat), (∀ (u : World), S u → World.cell? u (Addr.add (Addr.mk g (0 :
 Nat) Option.none) (0 : Nat)) = Option.some (Value.slice x_29 x_30 x_31)) ∧ ∃ (x_32 : Int), (∀ (u : World), S u → World.cell? u (Addr.add (Addr.mk g (0 : Nat) Option.none) (1 : Nat)) =
 Option.some (Value.int IntKind.i64 x_32)) ∧ ((0 : Int) ≤ x ∧ x ≤ (↑x_15 : Int)) ∧ ∃ (x_33 : Option Addr), ∃ (x_34 : Nat), ∃ (x_35 : Nat), ∃ (w' : World), RunsTo Try.prog
 (Builtin.append_ (Array.mk [(80 : Nat), (80 : Nat)]) (80 : Nat) #[Value.slice x_26 x_27 x_28, Value.slice (cutAt x_14 x_16 (Int.toNat x) (2 : Nat)) (x_15 - Int.toNat x) (x_16 - Int.toNat
 x)]) (World.drew w) (Value.slice x_33 x_34 x_35) w' ∧ S w' ∧ CallsV Try.prog (66 : Nat) #[Value.agg #[Value.slice x_29 x_30 x_31, Value.int IntKind.i64 x_32],
 Value.int IntKind.i64 atx, Value.slice x_33 x_34 x_35] w' fun (v : Value) (w' : World) => ∃ (x : Option Addr), ∃ (x_36 : Nat), ∃ (x_37 : Nat), ∃ (x_38 : Int), v = Value.agg
 #[Value.slice x x_36 x_37, Value.int IntKind.i64 x_38] ∧ stOK (Addr.mk g_1 (0 : Nat) Option.none) (0 : Nat) [Value.slice x x_36 x_37, Value.int IntKind.i64 x_38] w' ∧ ∀ (w'_6
 : World), w'_6 = setAll (Addr.mk g_1 (0 : Nat) Option.none) (0 : Nat) [Value.slice x x_36 x_37, Value.int IntKind.i64 x_38] w' → ∃ (x : Option Addr), ∃ (x_39 : Nat), ∃ (x_40 :
 Nat), World.cell? w'_6 (Addr.add (Addr.mk g_1 (0 : Nat) Option.none) (0 : Nat)) = Option.some (Value.slice x x_39 x_40) ∧ ∃ (x_41 : Int), World.cell? w'_6 (Addr.add (Addr.mk g_1 (0
 : Nat) Option.none) (1 : Nat)) = Option.some (Value.int IntKind.i64 x_41) ∧ K (Value.agg #[Value.slice x x_39 x_40, Value.int IntKind.i64 x_41]) w'_6) ∧ bif x_4 then J
 (IntKind.wrap IntKind.i64 (x + (1 : Int))) w'_5 else J x w'_5
theorem cardindexref04_Trees_Put.eq (t0_A : Option Addr) (t0_n : Nat) (t0_c : Nat) (t1 : Int) (atx : Int) (key_A : Option Addr) (key_n : Nat) (key_c : Nat) (val_A : Option Addr) (val_n : Nat) (val_c : Nat) (w : World) (K : Value → World → Prop) : cardindexref04_Trees_Put.W t0_A t0_n t0_c t1 atx key_A key_n key_c val_A val_n val_c w K = fnW Try.prog Try.f38 (.named (.seq .auto (.seq .auto (.seq .auto (.seq .auto (.seq .auto (.seq .auto (.seq .auto (.seq .auto (.join [(9, .one (.int .i64))] .auto .auto)))))))))) [.agg #[.slice t0_A t0_n t0_c, .int .i64 t1], .int .i64 atx, .slice key_A key_n key_c, .slice val_A val_n val_c] w K := by kernel_rfl
theorem cardindexref04_Trees_Put.calls (ok : Okay Try.prog) {t0_A : Option Addr} {t0_n : Nat} {t0_c : Nat} {t1 : Int} {atx : Int} {key_A : Option Addr} {key_n : Nat} {key_c : Nat} {val_A : Option Addr} {val_n : Nat} {val_c : Nat} {w : World} {K : Value → World → Prop} (h : cardindexref04_Trees_Put.W t0_A t0_n t0_c t1 atx key_A key_n key_c val_A val_n val_c w K) : CallsV Try.prog 38 #[.agg #[.slice t0_A t0_n t0_c, .int .i64 t1], .int .i64 atx, .slice key_A key_n key_c, .slice val_A val_n val_c] w K :=
  fnW_calls ok Try.func38 (an := (.named (.seq .auto (.seq .auto (.seq .auto (.seq .auto (.seq .auto (.seq .auto (.seq .auto (.seq .auto (.join [(9, .one (.int .i64))] .auto .auto))))))))))) (args := [.agg #[.slice t0_A t0_n t0_c, .int .i64 t1], .int .i64 atx, .slice key_A key_n key_c, .slice val_A val_n val_c]) (by rw [← cardindexref04_Trees_Put.eq]; exact h)
noncomputable def cardindexref04_Trees_Delete.W : Option Addr → Nat → Nat → Int → Int → Option Addr → Nat → Nat → World → (Value → World → Prop) → Prop := fun (t0_A : Option Addr) (t0_n t0_c : Nat)
 (t1 atx : Int) (key_A : Option Addr) (key_n key_c : Nat) (w : World) (K : Value → World → Prop) => ∀ (g : Nat) (w' : World), Fresh w g w' [Value.slice t0_A t0_n t0_c,
 Value.int IntKind.i64 t1] (67 : Nat) → ∀ (g_1 : Nat) (w'_1 : World), Fresh w' g_1 w'_1 [Value.slice Option.none (0 : Nat) (0 : Nat), Value.int IntKind.i64 (0 : Int)] (67 : Nat)
 → ∃ (x : Option Addr), ∃ (x_1 : Nat), ∃ (x_2 : Nat), World.cell? w'_1 (Addr.add (Addr.mk g (0 : Nat) Option.none) (0 : Nat)) = Option.some (Value.slice x x_1 x_2) ∧ ∃ (x_3 : Int),
 World.cell? w'_1 (Addr.add (Addr.mk g (0 : Nat) Option.none) (1 : Nat)) = Option.some (Value.int IntKind.i64 x_3) ∧ CallsV Try.prog (37 : Nat) #[Value.agg
 #[Value.slice x x_1 x_2, Value.int IntKind.i64 x_3], Value.int IntKind.i64 atx, Value.slice key_A key_n key_c] w'_1 fun (v : Value) (w' : World) => ∃ (x : Int), ∃ (x_4 : Bool),
 v = Value.tuple #[Value.int IntKind.i64 x, Value.bool x_4] ∧ bif !x_4 then ∃ (x : Option Addr), ∃ (x_5 : Nat), ∃ (x_6 : Nat), World.cell? w' (Addr.add (Addr.mk g (0 : Nat)
 Option.none) (0 : Nat)) = Option.some (Value.slice x x_5 x_6) ∧ ∃ (x_7 : Int), World.cell? w' (Addr.add (Addr.mk g (0 : Nat) Option.none) (1 : Nat)) = Option.some (Value.int
 IntKind.i64 x_7) ∧ stOK (Addr.mk g_1 (0 : Nat) Option.none) (0 : Nat) [Value.slice x x_5 x_6, Value.int IntKind.i64 x_7] w' ∧ ∀ (w'_2 : World), w'_2 = setAll (Addr.mk
 g_1 (0 : Nat) Option.none) (0 : Nat) [Value.slice x x_5 x_6, Value.int IntKind.i64 x_7] w' → ∃ (x : Option Addr), ∃ (x_8 : Nat), ∃ (x_9 : Nat), World.cell? w'_2 (Addr.add (Addr.mk
 g_1 (0 : Nat) Option.none) (0 : Nat)) = Option.some (Value.slice x x_8 x_9) ∧ ∃ (x_10 : Int), World.cell? w'_2 (Addr.add (Addr.mk g_1 (0 : Nat) Option.none) (1 : Nat)) = Option.some
 (Value.int IntKind.i64 x_10) ∧ K (Value.agg #[Value.slice x x_8 x_9, Value.int IntKind.i64 x_10]) w'_2 else ∃ (x_5 : Option Addr), ∃ (x_6 : Nat), ∃ (x_7 : Nat), World.cell? w'
 (Addr.add (Addr.mk g (0 : Nat) Option.none) (0 : Nat)) = Option.some (Value.slice x_5 x_6 x_7) ∧ ∃ (ad : Addr), x_5 = Option.some ad ∧ ((0 : Int) ≤ atx ∧ atx < (↑x_6 : Int)) ∧ ∃ (x_8 :
 Option Addr), ∃ (x_9 : Nat), ∃ (x_10 : Nat), World.cell? w' (Addr.add (Addr.add ad (Int.toNat atx * (2 : Nat))) (1 : Nat)) = Option.some (Value.slice x_8 x_9 x_10) ∧ ((0 : Int) ≤ x ∧ x ≤
 (↑x_10 : Int)) ∧ ∃ (x_11 : Option Addr), ∃ (x_12 : Nat), ∃ (x_13 : Nat), ∃ (w'_2 : World), RunsTo Try.prog (Builtin.append_ (Array.mk [(80 : Nat), (80 : Nat)]) (80 : Nat)
 #[Value.slice Option.none (0 : Nat) (0 : Nat), Value.slice (cutAt x_8 x_10 (0 : Nat) (2 : Nat)) (Int.toNat x - (0 : Nat)) (x_10 - (0 : Nat))]) w' (Value.slice x_11 x_12 x_13) w'_2 ∧ ∃ (S
 : World → Prop), S (World.drew w'_2) ∧ ∃ (x_14 : Option Addr), ∃ (x_15 : Nat), ∃ (x_16 : Nat), (∀ (u : World), S u → World.cell? u (Addr.add (Addr.mk g (0 : Nat) Option.none) (0 :
 Nat)) = Option.some (Value.slice x_14 x_15 x_16)) ∧ ∃ (x_17 : Int), (∀ (u : World), S u → World.cell? u (Addr.add (Addr.mk g (0 : Nat) Option.none) (1 : Nat)) = Option.some (Value.int
 IntKind.i64 x_17)) ∧ ((0 : Int) ≤ IntKind.wrap IntKind.i64 (x + (1 : Int)) ∧ IntKind.wrap IntKind.i64 (x + (1 : Int)) ≤ (↑x_9 : Int)) ∧ ∃ (x_18 : Option Addr), ∃ (x_19 : Nat), ∃ (x_20
 : Nat), ∃ (w' : World), RunsTo Try.prog (Builtin.append_ (Array.mk [(80 : Nat), (80 : Nat)]) (80 : Nat) #[Value.slice x_11 x_12 x_13, Value.slice (cutAt x_8 x_10
 (Int.toNat (IntKind.wrap IntKind.i64 (x + (1 : Int)))) (2 : Nat)) (x_9 - Int.toNat (IntKind.wrap IntKind.i64 (x + (1 : Int)))) (x_10 - Int.toNat (IntKind.wrap IntKind.i64 (x + (1 :
 Int))))]) (World.drew w'_2) (Value.slice x_18 x_19 x_20) w' ∧ S w' ∧ CallsV Try.prog (66 : Nat) #[Value.agg #[Value.slice x_14 x_15 x_16, Value.int IntKind.i64 x_17],
 Value.int IntKind.i64 atx, Value.slice x_18 x_19 x_20] w' fun (v : Value) (w' : World) => ∃ (x : Option Addr), ∃ (x_21 : Nat), ∃ (x_22 : Nat), ∃ (x_23 : Int), v = Value.agg
 #[Value.slice x x_21 x_22, Value.int IntKind.i64 x_23] ∧ stOK (Addr.mk g_1 (0 : Nat) Option.none) (0 : Nat) [Value.slice x x_21 x_22, Value.int IntKind.i64 x_23] w' ∧ ∀ (w'_3
 : World), w'_3 = setAll (Addr.mk g_1 (0 : Nat) Option.none) (0 : Nat) [Value.slice x x_21 x_22, Value.int IntKind.i64 x_23] w' → ∃ (x : Option Addr), ∃ (x_24 : Nat), ∃ (x_25 :
 Nat), World.cell? w'_3 (Addr.add (Addr.mk g_1 (0 : Nat) Option.none) (0 : Nat)) = Option.some (Value.slice x x_24 x_25) ∧ ∃ (x_26 : Int), World.cell? w'_3 (Addr.add (Addr.mk g_1 (0
 : Nat) Option.none) (1 : Nat)) = Option.some (Value.int IntKind.i64 x_26) ∧ K (Value.agg #[Value.slice x x_24 x_25, Value.int IntKind.i64 x_26]) w'_3
theorem cardindexref04_Trees_Delete.eq (t0_A : Option Addr) (t0_n : Nat) (t0_c : Nat) (t1 : Int) (atx : Int) (key_A : Option Addr) (key_n : Nat) (key_c : Nat) (w : World) (K : Value → World → Prop) : cardindexref04_Trees_Delete.W t0_A t0_n t0_c t1 atx key_A key_n key_c w K = fnW Try.prog Try.f39 (.named .auto) [.agg #[.slice t0_A t0_n t0_c, .int .i64 t1], .int .i64 atx, .slice key_A key_n key_c] w K := by kernel_rfl
theorem cardindexref04_Trees_Delete.calls (ok : Okay Try.prog) {t0_A : Option Addr} {t0_n : Nat} {t0_c : Nat} {t1 : Int} {atx : Int} {key_A : Option Addr} {key_n : Nat} {key_c : Nat} {w : World} {K : Value → World → Prop} (h : cardindexref04_Trees_Delete.W t0_A t0_n t0_c t1 atx key_A key_n key_c w K) : CallsV Try.prog 39 #[.agg #[.slice t0_A t0_n t0_c, .int .i64 t1], .int .i64 atx, .slice key_A key_n key_c] w K :=
  fnW_calls ok Try.func39 (an := (.named .auto)) (args := [.agg #[.slice t0_A t0_n t0_c, .int .i64 t1], .int .i64 atx, .slice key_A key_n key_c]) (by rw [← cardindexref04_Trees_Delete.eq]; exact h)
noncomputable def cardindexref04_Trees_Entry.W : Option Addr → Nat → Nat → Int → Int → Int → World → (Value → World → Prop) → Prop := fun (t0_A : Option Addr) (t0_n t0_c : Nat) (t1 atx k : Int) (w :
 World) (K : Value → World → Prop) => ∀ (g : Nat) (w' : World), Fresh w g w' [Value.slice t0_A t0_n t0_c, Value.int IntKind.i64 t1] (67 : Nat) → ∀ (g_1 : Nat) (w'_1 :
 World), Fresh w' g_1 w'_1 [Value.slice Option.none (0 : Nat) (0 : Nat), Value.slice Option.none (0 : Nat) (0 : Nat)] (119 : Nat) → bif Decidable.decide (atx < (0 : Int)) then stOK
 (Addr.mk g_1 (0 : Nat) Option.none) (0 : Nat) [Value.slice Option.none (0 : Nat) (0 : Nat), Value.slice Option.none (0 : Nat) (0 : Nat)] w'_1 ∧ ∀ (w' : World), w' = setAll (Addr.mk
 g_1 (0 : Nat) Option.none) (0 : Nat) [Value.slice Option.none (0 : Nat) (0 : Nat), Value.slice Option.none (0 : Nat) (0 : Nat)] w'_1 → ∃ (x : Option Addr), ∃ (x_1 : Nat), ∃ (x_2 : Nat),
 World.cell? w' (Addr.add (Addr.mk g_1 (0 : Nat) Option.none) (0 : Nat)) = Option.some (Value.slice x x_1 x_2) ∧ ∃ (x_3 : Option Addr), ∃ (x_4 : Nat), ∃ (x_5 : Nat), World.cell? w'
 (Addr.add (Addr.mk g_1 (0 : Nat) Option.none) (1 : Nat)) = Option.some (Value.slice x_3 x_4 x_5) ∧ K (Value.tuple #[Value.agg #[Value.slice x x_1 x_2, Value.slice x_3 x_4 x_5],
 Value.bool Bool.false]) w' else bif Decidable.decide (k < (0 : Int)) then stOK (Addr.mk g_1 (0 : Nat) Option.none) (0 : Nat) [Value.slice Option.none (0 : Nat) (0 : Nat), Value.slice
 Option.none (0 : Nat) (0 : Nat)] w'_1 ∧ ∀ (w' : World), w' = setAll (Addr.mk g_1 (0 : Nat) Option.none) (0 : Nat) [Value.slice Option.none (0 : Nat) (0 : Nat), Value.slice Option.none
 (0 : Nat) (0 : Nat)] w'_1 → ∃ (x : Option Addr), ∃ (x_1 : Nat), ∃ (x_2 : Nat), World.cell? w' (Addr.add (Addr.mk g_1 (0 : Nat) Option.none) (0 : Nat)) = Option.some (Value.slice x x_1
 x_2) ∧ ∃ (x_3 : Option Addr), ∃ (x_4 : Nat), ∃ (x_5 : Nat), World.cell? w' (Addr.add (Addr.mk g_1 (0 : Nat) Option.none) (1 : Nat)) = Option.some (Value.slice x_3 x_4 x_5) ∧ K
 (Value.tuple #[Value.agg #[Value.slice x x_1 x_2, Value.slice x_3 x_4 x_5], Value.bool Bool.false]) w' else ∃ (x : Option Addr), ∃ (x_1 : Nat), ∃ (x_2 : Nat), World.cell? w'_1
 (Addr.add (Addr.mk g (0 : Nat) Option.none) (0 : Nat)) = Option.some (Value.slice x x_1 x_2) ∧ ∃ (ad : Addr), x = Option.some ad ∧ ((0 : Int) ≤ atx ∧ atx < (↑x_1 : Int)) ∧ ∃ (x : Option
 Addr), ∃ (x_3 : Nat), ∃ (x_4 : Nat), World.cell? w'_1 (Addr.add (Addr.add ad (Int.toNat atx * (2 : Nat))) (1 : Nat)) = Option.some (Value.slice x x_3 x_4) ∧ bif Decidable.decide ((↑x_3 :
 Int) ≤ k) then stOK (Addr.mk g_1 (0 : Nat) Option.none) (0 : Nat) [Value.slice Option.none (0 : Nat) (0 : Nat), Value.slice Option.none (0 : Nat) (0 : Nat)] w'_1 ∧ ∀ (w' : World), w'
 = setAll (Addr.mk g_1 (0 : Nat) Option.none) (0 : Nat) [Value.slice Option.none (0 : Nat) (0 : Nat), Value.slice Option.none (0 : Nat) (0 : Nat)] w'_1 → ∃ (x : Option Addr), ∃ (x_5 :
 Nat), ∃ (x_6 : Nat), World.cell? w' (Addr.add (Addr.mk g_1 (0 : Nat) Option.none) (0 : Nat)) = Option.some (Value.slice x x_5 x_6) ∧ ∃ (x_7 : Option Addr), ∃ (x_8 : Nat), ∃ (x_9 : Nat),
 World.cell? w' (Addr.add (Addr.mk g_1 (0 : Nat) Option.none) (1 : Nat)) = Option.some (Value.slice x_7 x_8 x_9) ∧ K (Value.tuple #[Value.agg #[Value.slice x x_5 x_6, Value.slice
 x_7 x_8 x_9], Value.bool Bool.false]) w' else ∃ (x : Option Addr), ∃ (x_5 : Nat), ∃ (x_6 : Nat), World.cell? w'_1 (Addr.add (Addr.mk g (0 : Nat) Option.none) (0 : Nat)) = Option.some
 (Value.slice x x_5 x_6) ∧ ∃ (ad : Addr), x = Option.some ad ∧ ((0 : Int) ≤ atx ∧ atx < (↑x_5 : Int)) ∧ ∃ (x : Option Addr), ∃ (x_7 : Nat), ∃ (x_8 : Nat), World.cell? w'_1 (Addr.add
 (Addr.add ad (Int.toNat atx * (2 : Nat))) (1 : Nat)) = Option.some (Value.slice x x_7 x_8) ∧ ∃ (ad : Addr), x = Option.some ad ∧ ((0 : Int) ≤ k ∧ k < (↑x_7 : Int)) ∧ ∃ (x : Option Addr), ∃
 (x_9 : Nat), ∃ (x_10 : Nat), World.cell? w'_1 (Addr.add (Addr.add ad (Int.toNat k * (2 : Nat))) (0 : Nat)) = Option.some (Value.slice x x_9 x_10) ∧ ∃ (x_11 : Option Addr), ∃ (x_12 :
 Nat), ∃ (x_13 : Nat), World.cell? w'_1 (Addr.add (Addr.add ad (Int.toNat k * (2 : Nat))) (1 : Nat)) = Option.some (Value.slice x_11 x_12 x_13) ∧ stOK (Addr.mk g_1 (0 : Nat)
 Option.none) (0 : Nat) [Value.slice x x_9 x_10, Value.slice x_11 x_12 x_13] w'_1 ∧ ∀ (w' : World), w' = setAll (Addr.mk g_1 (0 : Nat) Option.none) (0 : Nat) [Value.slice x x_9
 x_10, Value.slice x_11 x_12 x_13] w'_1 → ∃ (x : Option Addr), ∃ (x_14 : Nat), ∃ (x_15 : Nat), World.cell? w' (Addr.add (Addr.mk g_1 (0 : Nat) Option.none) (0 : Nat)) = Option.some
 (Value.slice x x_14 x_15) ∧ ∃ (x_16 : Option Addr), ∃ (x_17 : Nat), ∃ (x_18 : Nat), World.cell? w' (Addr.add (Addr.mk g_1 (0 : Nat) Option.none) (1 : Nat)) = Option.some (Value.slice
 x_16 x_17 x_18) ∧ K (Value.tuple #[Value.agg #[Value.slice x x_14 x_15, Value.slice x_16 x_17 x_18], Value.bool Bool.true]) w'
theorem cardindexref04_Trees_Entry.eq (t0_A : Option Addr) (t0_n : Nat) (t0_c : Nat) (t1 : Int) (atx : Int) (k : Int) (w : World) (K : Value → World → Prop) : cardindexref04_Trees_Entry.W t0_A t0_n t0_c t1 atx k w K = fnW Try.prog Try.f70 (.named .auto) [.agg #[.slice t0_A t0_n t0_c, .int .i64 t1], .int .i64 atx, .int .i64 k] w K := by kernel_rfl
theorem cardindexref04_Trees_Entry.calls (ok : Okay Try.prog) {t0_A : Option Addr} {t0_n : Nat} {t0_c : Nat} {t1 : Int} {atx : Int} {k : Int} {w : World} {K : Value → World → Prop} (h : cardindexref04_Trees_Entry.W t0_A t0_n t0_c t1 atx k w K) : CallsV Try.prog 70 #[.agg #[.slice t0_A t0_n t0_c, .int .i64 t1], .int .i64 atx, .int .i64 k] w K :=
  fnW_calls ok Try.func70 (an := (.named .auto)) (args := [.agg #[.slice t0_A t0_n t0_c, .int .i64 t1], .int .i64 atx, .int .i64 k]) (by rw [← cardindexref04_Trees_Entry.eq]; exact h)
noncomputable def cardindexref04_Trees_After.W : Option Addr → Nat → Nat → Int → Int → Option Addr → Nat → Nat → Bool → World → (Value → World → Prop) → Prop := fun (t0_A : Option Addr) (t0_n t0_c :
 Nat) (t1 atx : Int) (key_A : Option Addr) (key_n key_c : Nat) (is : Bool) (w : World) (K : Value → World → Prop) => ∀ (g : Nat) (w' : World), Fresh w g w' [Value.slice t0_A t0_n
 t0_c, Value.int IntKind.i64 t1] (67 : Nat) → ∀ (g_1 : Nat) (w'_1 : World), Fresh w' g_1 w'_1 [Value.slice Option.none (0 : Nat) (0 : Nat), Value.slice Option.none (0 : Nat) (0 :
 Nat)] (119 : Nat) → bif Decidable.decide (atx < (0 : Int)) then stOK (Addr.mk g_1 (0 : Nat) Option.none) (0 : Nat) [Value.slice Option.none (0 : Nat) (0 : Nat), Value.slice Option.none
 (0 : Nat) (0 : Nat)] w'_1 ∧ ∀ (w' : World), w' = setAll (Addr.mk g_1 (0 : Nat) Option.none) (0 : Nat) [Value.slice Option.none (0 : Nat) (0 : Nat), Value.slice Option.none (0 : Nat)
 (0 : Nat)] w'_1 → ∃ (x : Option Addr), ∃ (x_1 : Nat), ∃ (x_2 : Nat), World.cell? w' (Addr.add (Addr.mk g_1 (0 : Nat) Option.none) (0 : Nat)) = Option.some (Value.slice x x_1 x_2) ∧ ∃
 (x_3 : Option Addr), ∃ (x_4 : Nat), ∃ (x_5 : Nat), World.cell? w' (Addr.add (Addr.mk g_1 (0 : Nat) Option.none) (1 : Nat)) = Option.some (Value.slice x_3 x_4 x_5) ∧ K (Value.tuple
 #[Value.agg #[Value.slice x x_1 x_2, Value.slice x_3 x_4 x_5], Value.bool Bool.false]) w' else ∃ (x : Option Addr), ∃ (x_1 : Nat), ∃ (x_2 : Nat), World.cell? w'_1 (Addr.add
 (Addr.mk g (0 : Nat) Option.none) (0 : Nat)) = Option.some (Value.slice x x_1 x_2) ∧ ∃ (x_3 : Int), World.cell? w'_1 (Addr.add (Addr.mk g (0 : Nat) Option.none) (1 : Nat)) = Option.some
 (Value.int IntKind.i64 x_3) ∧ CallsV Try.prog (37 : Nat) #[Value.agg #[Value.slice x x_1 x_2, Value.int IntKind.i64 x_3], Value.int IntKind.i64 atx,
 Value.slice key_A key_n key_c] w'_1 fun (v : Value) (w' : World) => ∃ (x : Int), ∃ (x_4 : Bool), v = Value.tuple #[Value.int IntKind.i64 x, Value.bool x_4] ∧ ∃ (J : Int → World
 → Prop), (∀ (x : Int) (w : World), J x w → ∃ (x_5 : Option Addr), ∃ (x_6 : Nat), ∃ (x_7 : Nat), World.cell? w (Addr.add (Addr.mk g (0 : Nat) Option.none) (0 : Nat)) = Option.some
 (Value.slice x_5 x_6 x_7) ∧ ∃ (x_8 : Int), World.cell? w (Addr.add (Addr.mk g (0 : Nat) Option.none) (1 : Nat)) = Option.some (Value.int IntKind.i64 x_8) ∧ CallsV
 Try.prog (70 : Nat) #[Value.agg #[Value.slice x_5 x_6 x_7, Value.int IntKind.i64 x_8], Value.int IntKind.i64 atx, Value.int IntKind.i64 x] w fun (v : Value) (w' :
 World) => ∃ (x : Option Addr), ∃ (x_9 : Nat), ∃ (x_10 : Nat), ∃ (x_11 : Option Addr), ∃ (x_12 : Nat), ∃ (x_13 : Nat), ∃ (x_14 : Bool), v = Value.tuple #[Value.agg #[Value.slice x x_9
 x_10, Value.slice x_11 x_12 x_13], Value.bool x_14] ∧ stOK (Addr.mk g_1 (0 : Nat) Option.none) (0 : Nat) [Value.slice x x_9 x_10, Value.slice x_11 x_12 x_13] w' ∧ ∀ (w'_2 :
 World), w'_2 = setAll (Addr.mk g_1 (0 : Nat) Option.none) (0 : Nat) [Value.slice x x_9 x_10, Value.slice x_11 x_12 x_13] w' → ∃ (x : Option Addr), ∃ (x_15 : Nat), ∃ (x_16 : Nat),
 World.cell? w'_2 (Addr.add (Addr.mk g_1 (0 : Nat) Option.none) (0 : Nat)) = Option.some (Value.slice x x_15 x_16) ∧ ∃ (x_17 : Option Addr), ∃ (x_18 : Nat), ∃ (x_19 : Nat), World.cell?
 w'_2 (Addr.add (Addr.mk g_1 (0 : Nat) Option.none) (1 : Nat)) = Option.some (Value.slice x_17 x_18 x_19) ∧ K (Value.tuple #[Value.agg #[Value.slice x x_15 x_16, Value.slice x_17
 x_18 x_19], Value.bool x_14]) w'_2) ∧ bif x_4 then bif !is then J (IntKind.wrap IntKind.i64 (x + (1 : Int))) w' else J x w' else J x w'
theorem cardindexref04_Trees_After.eq (t0_A : Option Addr) (t0_n : Nat) (t0_c : Nat) (t1 : Int) (atx : Int) (key_A : Option Addr) (key_n : Nat) (key_c : Nat) (is : Bool) (w : World) (K : Value → World → Prop) : cardindexref04_Trees_After.W t0_A t0_n t0_c t1 atx key_A key_n key_c is w K = fnW Try.prog Try.f67 (.named (.seq .auto (.seq .auto (.seq .auto (.join [(10, .one (.int .i64))] .auto .auto))))) [.agg #[.slice t0_A t0_n t0_c, .int .i64 t1], .int .i64 atx, .slice key_A key_n key_c, .bool is] w K := by kernel_rfl
theorem cardindexref04_Trees_After.calls (ok : Okay Try.prog) {t0_A : Option Addr} {t0_n : Nat} {t0_c : Nat} {t1 : Int} {atx : Int} {key_A : Option Addr} {key_n : Nat} {key_c : Nat} {is : Bool} {w : World} {K : Value → World → Prop} (h : cardindexref04_Trees_After.W t0_A t0_n t0_c t1 atx key_A key_n key_c is w K) : CallsV Try.prog 67 #[.agg #[.slice t0_A t0_n t0_c, .int .i64 t1], .int .i64 atx, .slice key_A key_n key_c, .bool is] w K :=
  fnW_calls ok Try.func67 (an := (.named (.seq .auto (.seq .auto (.seq .auto (.join [(10, .one (.int .i64))] .auto .auto)))))) (args := [.agg #[.slice t0_A t0_n t0_c, .int .i64 t1], .int .i64 atx, .slice key_A key_n key_c, .bool is]) (by rw [← cardindexref04_Trees_After.eq]; exact h)
noncomputable def cardindexref04_Trees_Before.W : Option Addr → Nat → Nat → Int → Int → Option Addr → Nat → Nat → Bool → World → (Value → World → Prop) → Prop := fun (t0_A : Option Addr) (t0_n t0_c
 : Nat) (t1 atx : Int) (key_A : Option Addr) (key_n key_c : Nat) (is : Bool) (w : World) (K : Value → World → Prop) => ∀ (g : Nat) (w' : World), Fresh w g w' [Value.slice t0_A
 t0_n t0_c, Value.int IntKind.i64 t1] (67 : Nat) → ∀ (g_1 : Nat) (w'_1 : World), Fresh w' g_1 w'_1 [Value.slice Option.none (0 : Nat) (0 : Nat), Value.slice Option.none (0 : Nat) (0
 : Nat)] (119 : Nat) → bif Decidable.decide (atx < (0 : Int)) then stOK (Addr.mk g_1 (0 : Nat) Option.none) (0 : Nat) [Value.slice Option.none (0 : Nat) (0 : Nat), Value.slice Option.none
 (0 : Nat) (0 : Nat)] w'_1 ∧ ∀ (w' : World), w' = setAll (Addr.mk g_1 (0 : Nat) Option.none) (0 : Nat) [Value.slice Option.none (0 : Nat) (0 : Nat), Value.slice Option.none (0 : Nat)
 (0 : Nat)] w'_1 → ∃ (x : Option Addr), ∃ (x_1 : Nat), ∃ (x_2 : Nat), World.cell? w' (Addr.add (Addr.mk g_1 (0 : Nat) Option.none) (0 : Nat)) = Option.some (Value.slice x x_1 x_2) ∧ ∃
 (x_3 : Option Addr), ∃ (x_4 : Nat), ∃ (x_5 : Nat), World.cell? w' (Addr.add (Addr.mk g_1 (0 : Nat) Option.none) (1 : Nat)) = Option.some (Value.slice x_3 x_4 x_5) ∧ K (Value.tuple
 #[Value.agg #[Value.slice x x_1 x_2, Value.slice x_3 x_4 x_5], Value.bool Bool.false]) w' else ∃ (x : Option Addr), ∃ (x_1 : Nat), ∃ (x_2 : Nat), World.cell? w'_1 (Addr.add
 (Addr.mk g (0 : Nat) Option.none) (0 : Nat)) = Option.some (Value.slice x x_1 x_2) ∧ ∃ (x_3 : Int), World.cell? w'_1 (Addr.add (Addr.mk g (0 : Nat) Option.none) (1 : Nat)) = Option.some
 (Value.int IntKind.i64 x_3) ∧ CallsV Try.prog (37 : Nat) #[Value.agg #[Value.slice x x_1 x_2, Value.int IntKind.i64 x_3], Value.int IntKind.i64 atx,
 Value.slice key_A key_n key_c] w'_1 fun (v : Value) (w' : World) => ∃ (x : Int), ∃ (x_4 : Bool), v = Value.tuple #[Value.int IntKind.i64 x, Value.bool x_4] ∧ ∃ (J : Int → World
 → Prop), (∀ (x : Int) (w : World), J x w → ∃ (x_5 : Option Addr), ∃ (x_6 : Nat), ∃ (x_7 : Nat), World.cell? w (Addr.add (Addr.mk g (0 : Nat) Option.none) (0 : Nat)) = Option.some
 (Value.slice x_5 x_6 x_7) ∧ ∃ (x_8 : Int), World.cell? w (Addr.add (Addr.mk g (0 : Nat) Option.none) (1 : Nat)) = Option.some (Value.int IntKind.i64 x_8) ∧ CallsV
 Try.prog (70 : Nat) #[Value.agg #[Value.slice x_5 x_6 x_7, Value.int IntKind.i64 x_8], Value.int IntKind.i64 atx, Value.int IntKind.i64 x] w fun (v : Value) (w' :
 World) => ∃ (x : Option Addr), ∃ (x_9 : Nat), ∃ (x_10 : Nat), ∃ (x_11 : Option Addr), ∃ (x_12 : Nat), ∃ (x_13 : Nat), ∃ (x_14 : Bool), v = Value.tuple #[Value.agg #[Value.slice x x_9
 x_10, Value.slice x_11 x_12 x_13], Value.bool x_14] ∧ stOK (Addr.mk g_1 (0 : Nat) Option.none) (0 : Nat) [Value.slice x x_9 x_10, Value.slice x_11 x_12 x_13] w' ∧ ∀ (w'_2 :
 World), w'_2 = setAll (Addr.mk g_1 (0 : Nat) Option.none) (0 : Nat) [Value.slice x x_9 x_10, Value.slice x_11 x_12 x_13] w' → ∃ (x : Option Addr), ∃ (x_15 : Nat), ∃ (x_16 : Nat),
 World.cell? w'_2 (Addr.add (Addr.mk g_1 (0 : Nat) Option.none) (0 : Nat)) = Option.some (Value.slice x x_15 x_16) ∧ ∃ (x_17 : Option Addr), ∃ (x_18 : Nat), ∃ (x_19 : Nat), World.cell?
 w'_2 (Addr.add (Addr.mk g_1 (0 : Nat) Option.none) (1 : Nat)) = Option.some (Value.slice x_17 x_18 x_19) ∧ K (Value.tuple #[Value.agg #[Value.slice x x_15 x_16, Value.slice x_17
 x_18 x_19], Value.bool x_14]) w'_2) ∧ bif !x_4 then J (IntKind.wrap IntKind.i64 (x - (1 : Int))) w' else bif !is then J (IntKind.wrap IntKind.i64 (x - (1 : Int))) w' else J x w'
theorem cardindexref04_Trees_Before.eq (t0_A : Option Addr) (t0_n : Nat) (t0_c : Nat) (t1 : Int) (atx : Int) (key_A : Option Addr) (key_n : Nat) (key_c : Nat) (is : Bool) (w : World) (K : Value → World → Prop) : cardindexref04_Trees_Before.W t0_A t0_n t0_c t1 atx key_A key_n key_c is w K = fnW Try.prog Try.f69 (.named (.seq .auto (.seq .auto (.seq .auto (.join [(10, .one (.int .i64))] .auto .auto))))) [.agg #[.slice t0_A t0_n t0_c, .int .i64 t1], .int .i64 atx, .slice key_A key_n key_c, .bool is] w K := by kernel_rfl
theorem cardindexref04_Trees_Before.calls (ok : Okay Try.prog) {t0_A : Option Addr} {t0_n : Nat} {t0_c : Nat} {t1 : Int} {atx : Int} {key_A : Option Addr} {key_n : Nat} {key_c : Nat} {is : Bool} {w : World} {K : Value → World → Prop} (h : cardindexref04_Trees_Before.W t0_A t0_n t0_c t1 atx key_A key_n key_c is w K) : CallsV Try.prog 69 #[.agg #[.slice t0_A t0_n t0_c, .int .i64 t1], .int .i64 atx, .slice key_A key_n key_c, .bool is] w K :=
  fnW_calls ok Try.func69 (an := (.named (.seq .auto (.seq .auto (.seq .auto (.join [(10, .one (.int .i64))] .auto .auto)))))) (args := [.agg #[.slice t0_A t0_n t0_c, .int .i64 t1], .int .i64 atx, .slice key_A key_n key_c, .bool is]) (by rw [← cardindexref04_Trees_Before.eq]; exact h)
end Go.Proofs.Ytadlhdiejmilmaa
/- Layer 4: the document's answer: trees as lists of entries in order. -/
set_option linter.unusedVariables false
set_option linter.unusedSimpArgs false
namespace Go.Proofs.Ytadlhdiejmilmaa
open Go Go.Sx T4
/-! ## plain -/
theorem insE_cut (key val : Key) : ∀ es : Es, insE key val es = es.take (pos (keysE es) key) ++ (key, val) :: es.drop (pos (keysE es) key + if has (keysE es) key then 1 else 0)
  | [] => rfl
  | (k, v) :: r => by
    have ih := insE_cut key val r
    show (if lt k key then (k, v) :: insE key val r else if k = key then (key, val) :: r else (key, val) :: (k, v) :: r) = _
    rw [show keysE ((k, v) :: r) = k :: keysE r from rfl, pos_cons, has_cons]
    by_cases h : lt k key
    · rw [if_pos h, if_pos h, if_pos h, ih, List.take_succ_cons, show pos (keysE r) key + 1 + (if has (keysE r) key = true then 1 else 0) = (pos (keysE r) key + (if has (keysE r) key = true then 1 else 0)) + 1 by omega, List.drop_succ_cons]; rfl
    · rw [if_neg h, if_neg h, if_neg h]
      by_cases he : k = key
      · rw [if_pos he, decide_eq_true he]; rfl
      · rw [if_neg he, decide_eq_false he]; rfl
theorem delE_cut (key : Key) {es : Es} (h : has (keysE es) key = true) : delE key es = es.take (pos (keysE es) key) ++ es.drop (pos (keysE es) key + 1) := by
  induction es with
  | nil => simp [has, keysE, pos] at h
  | cons p r ih =>
    obtain ⟨k, v⟩ := p
    rw [show keysE ((k, v) :: r) = k :: keysE r from rfl, has_cons] at h
    show (if lt k key then (k, v) :: delE key r else if k = key then r else (k, v) :: r) = _
    rw [show keysE ((k, v) :: r) = k :: keysE r from rfl, pos_cons]
    by_cases hl : lt k key
    · rw [if_pos hl] at h ⊢
      rw [if_pos hl, ih h, List.take_succ_cons, List.drop_succ_cons]; rfl
    · rw [if_neg hl] at h ⊢
      rw [if_neg hl, if_pos (of_decide_eq_true h)]; rfl
theorem keysE_get {es : Es} {i : Nat} {k v : Key} (h : es[i]? = some (k, v)) : (keysE es)[i]? = some k := by simp [keysE, h]
theorem pos_stop (key : Key) : ∀ (ks : List Key) {k : Key}, ks[pos ks key]? = some k → ¬ lt k key
  | [], _, h => by simp at h
  | x :: ks, k, h => by
    rw [pos_cons] at h
    by_cases hx : lt x key
    · rw [if_pos hx, List.getElem?_cons_succ] at h
      exact pos_stop key ks h
    · rw [if_neg hx] at h
      simp at h
      subst h; exact hx
/-! ## kinds -/
def KEn : Kd (Key × Key) := ⟨2, fun Ω w p cs => ∃ a b, cs = [a, b] ∧ KBs.rep Ω w p.1 [a] ∧ KBs.rep Ω w p.2 [b], fun ⟨_, _, h, _⟩ => by simp [h], fun ⟨a, b, h, h1, h2⟩ st => ⟨a, b, h, KBs.keep h1 st, KBs.keep h2 st⟩⟩
theorem KEn_pos : 0 < KEn.size := by decide
abbrev KEs : Kd Es := Kd.slice KEn KEn_pos
def KTr : Kd (Int × Es) := ⟨2, fun Ω w p cs => ∃ b, cs = [.int .i64 p.1, b] ∧ KEs.rep Ω w p.2 [b], fun ⟨_, h, _⟩ => by simp [h], fun ⟨b, h, h1⟩ st => ⟨b, h, KEs.keep h1 st⟩⟩
theorem KTr_pos : 0 < KTr.size := by decide
theorem oneBs' {α : Type} {K : Kd α} {hz : 0 < K.size} {Ω : Nat → Prop} {w : World} {l : List α} {cs : List Value} (h : (Kd.slice K hz).rep Ω w l cs) : ∀ v ∈ cs, v.oneCell' = true := by
  obtain ⟨A, c, rfl, _⟩ := h
  intro v hv; simp at hv; subst hv; rfl
theorem oneEn {Ω : Nat → Prop} {w : World} {p : Key × Key} {cs : List Value} (h : KEn.rep Ω w p cs) : ∀ v ∈ cs, v.oneCell' = true := by
  obtain ⟨a, b, rfl, h1, h2⟩ := h
  intro v hv
  simp at hv
  rcases hv with rfl | rfl
  · exact oneBs' h1 v (by simp)
  · exact oneBs' h2 v (by simp)
theorem oneTr {Ω : Nat → Prop} {w : World} {p : Int × Es} {cs : List Value} (h : KTr.rep Ω w p cs) : ∀ v ∈ cs, v.oneCell' = true := by
  obtain ⟨b, rfl, h1⟩ := h
  intro v hv
  simp at hv
  rcases hv with rfl | rfl
  · rfl
  · exact oneBs' h1 v (by simp)
theorem slT : SlT Try.prog 65 82 2 32 [.int .i64 0, .slice none 0 0] := ⟨by kernel_rfl, ⟨Try.t82, by kernel_rfl, by kernel_rfl, by kernel_rfl, .agg #[.int .i64 0, .slice none 0 0], by kernel_rfl, by kernel_rfl⟩, rfl, by decide⟩
theorem slE : SlT Try.prog 80 119 2 48 [.slice none 0 0, .slice none 0 0] := ⟨by kernel_rfl, ⟨Try.t119, by kernel_rfl, by kernel_rfl, by kernel_rfl, .agg #[.slice none 0 0, .slice none 0 0], by kernel_rfl, by kernel_rfl⟩, rfl, by decide⟩
section
variable {Ω : Nat → Prop} {w : World}
/-- an entry, read -/
theorem enCell {A : Option Addr} {es : Es} (h : Imm KEn Ω w A es) {i : Nat} {k v : Key} (hi : es[i]? = some (k, v)) :
    ∃ ad A1 c1 A2 c2, A = some ad ∧ w.cell? ((ad.add (i * 2)).add 0) = some (.slice A1 k.length c1) ∧ w.cell? ((ad.add (i * 2)).add 1) = some (.slice A2 v.length c2) ∧ k.length ≤ c1 ∧ v.length ≤ c2 ∧ Imm KB Ω w A1 k ∧ Imm KB Ω w A2 v := by
  obtain ⟨ad, hA, _, cs, ⟨a, b, rfl, h1, h2⟩, hc⟩ := h i (k, v) hi
  obtain ⟨A1, c1, e1, l1, i1⟩ := h1
  obtain ⟨A2, c2, e2, l2, i2⟩ := h2
  simp at e1 e2
  subst e1; subst e2
  exact ⟨ad, A1, c1, A2, c2, hA, by rw [add_add]; exact hc 0 _ rfl, by rw [add_add]; exact hc 1 _ rfl, l1, l2, i1, i2⟩
theorem trCell {A : Option Addr} {F : List (Int × Es)} (h : Imm KTr Ω w A F) {i : Nat} {r : Int} {es : Es} (hi : F[i]? = some (r, es)) :
    ∃ ad B c, A = some ad ∧ w.cell? ((ad.add (i * 2)).add 0) = some (.int .i64 r) ∧ w.cell? ((ad.add (i * 2)).add 1) = some (.slice B es.length c) ∧ es.length ≤ c ∧ Imm KEn Ω w B es := by
  obtain ⟨ad, hA, _, cs, ⟨b, rfl, h1⟩, hc⟩ := h i (r, es) hi
  obtain ⟨B, c, e1, l1, i1⟩ := h1
  simp at e1
  subst e1
  exact ⟨ad, B, c, hA, by rw [add_add]; exact hc 0 _ rfl, by rw [add_add]; exact hc 1 _ rfl, l1, i1⟩
theorem repEn {A1 A2 : Option Addr} {c1 c2 : Nat} {k v : Key} (l1 : k.length ≤ c1) (l2 : v.length ≤ c2) (h1 : Imm KB Ω w A1 k) (h2 : Imm KB Ω w A2 v) : KEn.rep Ω w (k, v) [.slice A1 k.length c1, .slice A2 v.length c2] := ⟨_, _, rfl, ⟨A1, c1, rfl, l1, h1⟩, ⟨A2, c2, rfl, l2, h2⟩⟩
theorem repTr {B : Option Addr} {c : Nat} {r : Int} {es : Es} (l1 : es.length ≤ c) (h1 : Imm KEn Ω w B es) : KTr.rep Ω w (r, es) [.int .i64 r, .slice B es.length c] := ⟨_, rfl, B, c, rfl, l1, h1⟩
theorem fixI {α : Type} {K : Kd α} {A : Option Addr} {l : List α} (h : Imm K Ω w A l) : Imm (Kd.fix Ω w K) NoB w A l := fun i a ha => by
  obtain ⟨ad, hA, hn, cs, hr, hc⟩ := h i a ha
  exact ⟨ad, hA, fun h => h, cs, hr, hc⟩
theorem unfixI {α : Type} {K : Kd α} (hz : 0 < K.size) {w' : World} {A : Option Addr} {c : Nat} {l : List α} (h : OwnK (Kd.fix Ω w K) w' A c l) (e : Ext w w') (hΩ : ∀ k, ownB A k → ¬ Ω k) : Imm K Ω w' A l := by
  obtain ⟨xs, ho, hr⟩ := h
  exact Own.imm (K := K) hz ho hΩ fun i a ha => K.keep (show K.rep Ω w a _ from hr i a ha) (e.step Ω)
/-- append to what is owned, of things told of in the same world -/
theorem appFix {α : Type} {K : Kd α} {t e by_ : Nat} {z : List Value} (T : SlT Try.prog t e K.size by_ z) (h1 : ∀ {Ω w a cs}, K.rep Ω w a cs → ∀ v ∈ cs, v.oneCell' = true) {ty : TypeId} {u : World} {A B : Option Addr} {c cb : Nat} {l m : List α} (h : OwnK (Kd.fix Ω w K) u A c l) (hB : Imm (Kd.fix Ω w K) NoB u B m) (hoff : ∀ k, ownB A k → ¬ ownB B k ∨ m = [])
    (hb : l.length + m.length ≤ maxLen) (hb2 : (l.length + m.length) * by_ ≤ 140737488355328) :
    ∃ A' c' u', RunsTo Try.prog (Builtin.append_ #[t, t] ty #[.slice A l.length c, .slice B m.length cb]) u (.slice A' (l ++ m).length c') u' ∧ OwnK (Kd.fix Ω w K) u' A' c' (l ++ m) ∧ Grew A A' u u' := by
  refine OwnK.append (K := Kd.fix Ω w K) T h ?_ (fun a cs hr => h1 hr) hb hb2
  intro i a ha
  obtain ⟨ad, hA, hn, cs, hr, hc⟩ := hB i a ha
  refine ⟨ad, hA, fun hk => ?_, cs, hr, hc⟩
  rcases hoff _ hk with h | h
  · exact h ⟨ad, hA, rfl⟩
  · rw [h] at ha; cases ha
end
/-! ## Compare -/
theorem Cmp_spec {w : World} {Ω Ω' : Nat → Prop} {A B : Option Addr} {a b : List UInt8} (ha : Imm KB Ω w A a) (hb : Imm KB Ω' w B b) (hl : a.length ≤ 1152921504606846976 ∨ b.length ≤ 1152921504606846976) (ca cb : Nat) :
    CallsV Try.prog 65 #[.slice A a.length ca, .slice B b.length cb] w fun r w' => r = .int .i64 (Lib.compareBytes a b) ∧ Ext w w' := by
  refine cardindexref04_Compare.calls okay ?_
  unfold cardindexref04_Compare.W
  refine ⟨fun u => Ext w u ∧ ∃ j, j ≤ a.length ∧ j ≤ b.length ∧ Lib.compareBytes a b = Lib.compareBytes (a.drop j) (b.drop j) ∧ (j = a.length ∨ j = b.length), ?_, fun x u => ∃ j : Nat, x = (j : Int) ∧ j ≤ a.length ∧ j ≤ b.length ∧ Ext w u ∧ Lib.compareBytes a b = Lib.compareBytes (a.drop j) (b.drop j), fun x _ => (a.length - x).toNat, ⟨0, rfl, Nat.zero_le _, Nat.zero_le _, .refl _ _, rfl⟩, ?_⟩
  · rintro u ⟨e, j, h1, h2, h3, h4⟩
    refine brd (fun h => ?_) (fun h => brd (fun h' => ?_) (fun h' => ?_))
    · have : j = a.length := by omega
      rw [h3, this, List.drop_length, List.drop_eq_getElem_cons (show a.length < b.length by omega)]
      exact ⟨rfl, e⟩
    · have : j = b.length := by omega
      rw [h3, this, List.drop_length, List.drop_eq_getElem_cons (show b.length < a.length by omega)]
      exact ⟨rfl, e⟩
    · have : j = a.length := by omega
      have : j = b.length := by omega
      rw [h3, List.drop_eq_nil_of_le (by omega), List.drop_eq_nil_of_le (by omega)]
      exact ⟨rfl, e⟩
  · rintro _ u ⟨j, rfl, hj1, hj2, e, hc⟩
    refine brd (fun hlt => brd (fun hlt2 => ?_) (fun hge => ⟨e, j, hj1, hj2, hc, .inr (by omega)⟩)) (fun hge => ⟨e, j, hj1, hj2, hc, .inl (by omega)⟩)
    have ja : j < a.length := by omega
    have jb : j < b.length := by omega
    obtain ⟨ad, hA, ca1⟩ := ha.byte ja
    obtain ⟨bd, hB, cb1⟩ := hb.byte jb
    have hda := List.drop_eq_getElem_cons ja
    have hdb := List.drop_eq_getElem_cons jb
    have ed : Ext w u.drew := e.drew
    have edd : Ext w u.drew.drew := ed.drew
    rw [hda, hdb] at hc
    have hstep : Lib.compareBytes (a[j] :: a.drop (j + 1)) (b[j] :: b.drop (j + 1)) = if a[j] < b[j] then -1 else if b[j] < a[j] then 1 else Lib.compareBytes (a.drop (j + 1)) (b.drop (j + 1)) := rfl
    rw [hstep] at hc
    refine ⟨ad, hA, ⟨by omega, by omega⟩, fun v => Ext w v, ed, _, fun v ev => by rw [Int.toNat_natCast]; exact Ext.cell ev ca1, bd, hB, ⟨by omega, by omega⟩, _, fun v ev => by rw [Int.toNat_natCast]; exact Ext.cell ev cb1, brd (fun h => ?_) (fun h => ?_)⟩
    · have h' : a[j] < b[j] := by rw [UInt8.lt_iff_toNat_lt]; omega
      rw [if_pos h'] at hc
      exact ⟨by rw [hc], ed⟩
    · have h' : ¬ a[j] < b[j] := by rw [UInt8.lt_iff_toNat_lt]; omega
      rw [if_neg h'] at hc
      refine ⟨ad, hA, ⟨by omega, by omega⟩, fun v => Ext w v, edd, _, fun v ev => by rw [Int.toNat_natCast]; exact Ext.cell ev ca1, bd, hB, ⟨by omega, by omega⟩, _, fun v ev => by rw [Int.toNat_natCast]; exact Ext.cell ev cb1, brd (fun h2 => ?_) (fun h2 => ?_)⟩
      · have h2' : b[j] < a[j] := by rw [UInt8.lt_iff_toNat_lt]; omega
        rw [if_pos h2'] at hc
        exact ⟨by rw [hc], edd⟩
      · have h2' : ¬ b[j] < a[j] := by rw [UInt8.lt_iff_toNat_lt]; omega
        rw [if_neg h2'] at hc
        rw [wi _ (by omega) (by omega)]
        exact ⟨⟨j + 1, by omega, by omega, by omega, edd, hc⟩, by dsimp only; omega⟩
/-! ## Find, Place -/
def trV (A : Option Addr) (c : Nat) (F : List (Int × Es)) (last : Int) : Value := .agg #[.slice A F.length c, .int .i64 last]
def Fnd (F : List (Int × Es)) (r : Int) (i : Int) : Prop := (i = -1 ∧ ∀ p ∈ F, p.1 ≠ r) ∨ ∃ (j : Nat) (es : Es), i = (j : Int) ∧ F[j]? = some (r, es) ∧ ∀ k p, F[k]? = some p → k < j → p.1 ≠ r
theorem Find_spec {w : World} {Ω : Nat → Prop} {A : Option Addr} {c : Nat} {F : List (Int × Es)} (h : Imm KTr Ω w A F) (hl : F.length ≤ 1000000) (last root : Int) :
    CallsV Try.prog 35 #[trV A c F last, .int .i64 root] w fun r w' => ∃ i, r = .int .i64 i ∧ Fnd F root i ∧ Ext w w' := by
  refine cardindexref04_Trees_Find.calls okay ?_
  unfold cardindexref04_Trees_Find.W
  intro g w1 f1
  refine ⟨fun x u => ∃ j : Nat, x = (j : Int) ∧ j ≤ F.length ∧ Ext w1 u ∧ ∀ k p, F[k]? = some p → k < j → p.1 ≠ root, fun x _ => (F.length - x).toNat, ⟨0, rfl, Nat.zero_le _, .refl _ _, fun k p _ h => by omega⟩, ?_⟩
  rintro _ u ⟨j, rfl, hj, e, hno⟩
  have hb := f1.blk.ext e
  have ew := f1.ext.trans' e
  refine ⟨_, _, _, hb.cell rfl, brd (fun hlt => ?_) (fun hge => ?_)⟩
  · have hjl : j < F.length := by omega
    have hFj : F[j]? = some (F[j].1, F[j].2) := List.getElem?_eq_getElem hjl
    obtain ⟨ad, B, cc, hA, c0, c1, _, _⟩ := trCell h hFj
    refine ⟨_, _, _, hb.cell rfl, ad, hA, ⟨by omega, by omega⟩, _, by rw [Int.toNat_natCast]; exact Ext.cell ew c0, brd (fun he => ?_) (fun hne => ?_)⟩
    · exact ⟨_, rfl, .inr ⟨j, F[j].2, rfl, by rw [hFj, he], hno⟩, ew⟩
    · rw [wi _ (by omega) (by omega)]
      refine ⟨⟨j + 1, by omega, by omega, e, fun k p hk hlt => ?_⟩, by dsimp only; omega⟩
      rcases Nat.lt_or_ge k j with h | h
      · exact hno k p hk h
      · obtain rfl : k = j := by omega
        rw [hFj] at hk; cases hk; exact hne
  · obtain rfl : j = F.length := by omega
    refine ⟨_, rfl, .inl ⟨rfl, fun p hp => ?_⟩, ew⟩
    obtain ⟨k, hk, rfl⟩ := List.mem_iff_getElem.1 hp
    exact hno k _ (List.getElem?_eq_getElem hk) hk
theorem Place_spec {w : World} {Ω Ω' : Nat → Prop} {A : Option Addr} {c : Nat} {F : List (Int × Es)} (h : Imm KTr Ω w A F) {i : Nat} {r : Int} {es : Es} (hi : F[i]? = some (r, es)) (hl : es.length ≤ 1000000) (last : Int) {B : Option Addr} {key : Key} (hB : Imm KB Ω' w B key) (cb : Nat) (hkl : ∀ p ∈ es, p.1.length ≤ 1048576) :
    CallsV Try.prog 37 #[trV A c F last, iv i, .slice B key.length cb] w fun v w' => v = .tuple #[iv (pos (keysE es) key), .bool (has (keysE es) key)] ∧ Ext w w' := by
  refine cardindexref04_Trees_Place.calls okay ?_
  unfold cardindexref04_Trees_Place.W
  intro g w1 f1
  obtain ⟨ad, E, ce, hA, c0, c1, _, hE⟩ := trCell h hi
  have hil := (List.getElem?_eq_some_iff.1 hi).1
  refine ⟨_, _, _, f1.blk.cell rfl, ad, hA, ⟨by omega, by omega⟩, _, _, _, by rw [Int.toNat_natCast]; exact Ext.cell f1.ext c1, ?_⟩
  have hple := pos_le (keysE es) key
  rw [keysE_length] at hple
  have kl := keysE_length es
  refine ⟨fun x u => Ext w u ∧ x = ((pos (keysE es) key : Nat) : Int), ?_, fun x u => ∃ j : Nat, x = (j : Int) ∧ j ≤ pos (keysE es) key ∧ Ext w u, fun x _ => (es.length - x).toNat, ⟨0, rfl, Nat.zero_le _, f1.ext⟩, ?_⟩
  · rintro _ u ⟨e, rfl⟩
    refine brd (fun hlt => ?_) (fun hge => ?_)
    · obtain ⟨p, hp⟩ : ∃ p, es[pos (keysE es) key]? = some p := ⟨_, List.getElem?_eq_getElem (by omega)⟩
      obtain ⟨k, v⟩ := p
      obtain ⟨ed, A1, cc1, A2, cc2, hEd, d0, _, _, _, i1, _⟩ := enCell hE hp
      refine ⟨ed, hEd, ⟨by omega, by omega⟩, _, _, _, by rw [Int.toNat_natCast]; exact Ext.cell e d0, (Cmp_spec (i1.ext KB_pos e) (hB.ext KB_pos e) (by have h9 : k.length ≤ 1048576 := hkl _ (List.mem_of_getElem? hp); omega) _ _).mono ?_⟩
      rintro _ u' ⟨rfl, e'⟩
      have hk : (keysE es)[pos (keysE es) key]? = some k := keysE_get hp
      refine ⟨_, rfl, ?_, e.trans' e'⟩
      have hb : has (keysE es) key = decide (Lib.compareBytes k key = 0) := by
        unfold has
        rw [hk, decide_eq_decide]
        exact ⟨fun h => by cases h; exact cmp_self _, fun h => by rw [cmp_zero _ _ h]⟩
      rw [hb]
    · have hk : (keysE es)[pos (keysE es) key]? = none := List.getElem?_eq_none (by omega)
      refine ⟨?_, e⟩
      unfold has
      rw [hk]; rfl
  · rintro _ u ⟨j, rfl, hj, e⟩
    refine brd (fun hlt => ?_) (fun hge => ⟨e, by omega⟩)
    have hjl : j < es.length := by omega
    obtain ⟨p, hp⟩ : ∃ p, es[j]? = some p := ⟨_, List.getElem?_eq_getElem hjl⟩
    obtain ⟨k, v⟩ := p
    have hk : (keysE es)[j]? = some k := keysE_get hp
    have hk' : ∃ h : j < (keysE es).length, (keysE es)[j] = k := List.getElem?_eq_some_iff.1 hk
    obtain ⟨hk1, hk2⟩ := hk'
    obtain ⟨ed, A1, cc1, A2, cc2, hEd, d0, _, _, _, i1, _⟩ := enCell hE hp
    refine ⟨ed, hEd, ⟨by omega, by omega⟩, _, _, _, by rw [Int.toNat_natCast]; exact Ext.cell e d0, (Cmp_spec (i1.ext KB_pos e) (hB.ext KB_pos e) (by have h9 : k.length ≤ 1048576 := hkl _ (List.mem_of_getElem? hp); omega) _ _).mono ?_⟩
    rintro _ u' ⟨rfl, e'⟩
    refine ⟨_, rfl, brd (fun hc => ?_) (fun hc => ⟨e.trans' e', ?_⟩)⟩
    · rw [wi _ (by omega) (by omega)]
      have : j < pos (keysE es) key := by
        rcases Nat.lt_or_ge j (pos (keysE es) key) with h | h
        · exact h
        · obtain rfl : j = pos (keysE es) key := by omega
          exfalso
          have hn : ¬ lt k key := pos_stop _ _ hk
          exact hn hc
      exact ⟨⟨j + 1, by omega, by omega, e.trans' e'⟩, by dsimp only; omega⟩
    · rcases Nat.lt_or_ge j (pos (keysE es) key) with h | h
      · exact absurd (by have := pos_lt h hk1; rw [hk2] at this; exact this) hc
      · have : j = pos (keysE es) key := by omega
        rw [this]
end Go.Proofs.Ytadlhdiejmilmaa
/- Layer 4: the document's answer: trees that change. -/
set_option linter.unusedVariables false
set_option linter.unusedSimpArgs false
namespace Go.Proofs.Ytadlhdiejmilmaa
open Go Go.Sx T4
section
variable {w : World} {Ω : Nat → Prop}
/-- what is answered, copied to where it is told from -/
theorem finC {u : World} {g1 : Nat} {b0 b1 : Value} {X : Option Addr} {n c : Nat} {last : Int} {K : Value → World → Prop} (ew : Ext w u) (hb1 : Blk u g1 [b0, b1]) (hg1 : w.heap.size ≤ g1)
    (hK : ∀ u', Ext w u' → Fr (fun k => k = g1) u u' → K (.agg #[.slice X n c, .int .i64 last]) u') :
    stOK ⟨g1, 0, none⟩ 0 [.slice X n c, .int .i64 last] u ∧ ∀ w', w' = setAll ⟨g1, 0, none⟩ 0 [.slice X n c, .int .i64 last] u → ∃ x x1 x2, w'.cell? ((⟨g1, 0, none⟩ : Addr).add 0) = some (.slice x x1 x2) ∧ ∃ x3, w'.cell? ((⟨g1, 0, none⟩ : Addr).add 1) = some (.int .i64 x3) ∧ K (.agg #[.slice x x1 x2, .int .i64 x3]) w' := by
  refine ⟨hb1.stOK (o := 0) [_, _] 0 (by simp), fun w' hw' => ?_⟩
  have b' : Blk w' g1 [.slice X n c, .int .i64 last] := by rw [hw']; exact Blk.setAll (o := 0) [.slice X n c, .int .i64 last] 0 hb1
  have f' : Fr (fun k => k = g1) u w' := by rw [hw']; exact Fr.setAll _ _ _
  exact ⟨_, _, _, b'.cell rfl, _, b'.cell rfl, hK w' (ew.trans f' (fun _ _ h => h) (fun k hk e => by omega)) f'⟩
theorem finT {u : World} {g g1 : Nat} {a b0 b1 : Value} {X : Option Addr} {n c : Nat} {last : Int} {K : Value → World → Prop} (ew : Ext w u) (hb : Blk u g [a, .int .i64 last]) (hb1 : Blk u g1 [b0, b1]) (hne : g1 ≠ g) (hg : w.heap.size ≤ g) (hg1 : w.heap.size ≤ g1)
    (hK : ∀ u', Ext w u' → Fr (fun k => k = g ∨ k = g1) u u' → K (.agg #[.slice X n c, .int .i64 last]) u') :
    stOK ((⟨g, 0, none⟩ : Addr).add 0) 0 [.slice X n c] u ∧ ∀ w', w' = setAll ((⟨g, 0, none⟩ : Addr).add 0) 0 [.slice X n c] u → ∃ x x7 x8, w'.cell? ((⟨g, 0, none⟩ : Addr).add 0) = some (.slice x x7 x8) ∧ ∃ x9, w'.cell? ((⟨g, 0, none⟩ : Addr).add 1) = some (.int .i64 x9) ∧
      stOK ⟨g1, 0, none⟩ 0 [.slice x x7 x8, .int .i64 x9] w' ∧ ∀ w2, w2 = setAll ⟨g1, 0, none⟩ 0 [.slice x x7 x8, .int .i64 x9] w' → ∃ x x1 x2, w2.cell? ((⟨g1, 0, none⟩ : Addr).add 0) = some (.slice x x1 x2) ∧ ∃ x3, w2.cell? ((⟨g1, 0, none⟩ : Addr).add 1) = some (.int .i64 x3) ∧ K (.agg #[.slice x x1 x2, .int .i64 x3]) w2 := by
  obtain ⟨p1, p2⟩ := setF hb (o := 0) (by simp) (.slice X n c)
  refine ⟨p1, fun w' hw' => ?_⟩
  obtain ⟨b', f'⟩ := p2 w' hw'
  have e' : Ext w w' := ew.trans f' (fun _ _ h => h) (fun k hk e => by omega)
  exact ⟨_, _, _, b'.cell rfl, _, b'.cell rfl, finC e' (hb1.keep f' hne) hg1 fun u' e2 f2 => hK u' e2 ((f'.mono fun _ _ h => .inl h).trans f2 (fun _ _ h => h) (fun _ _ h => .inr h))⟩
/-- what stands for trees -/
def TrR (Ω : Nat → Prop) (w : World) (A : Option Addr) (c : Nat) (F : List (Int × Es)) : Prop := Imm KTr Ω w A F ∧ F.length ≤ c
theorem TrR.keep {Ω' : Nat → Prop} {w' : World} {A : Option Addr} {c : Nat} {F : List (Int × Es)} (h : TrR Ω w A c F) (st : Step Ω w Ω' w') : TrR Ω' w' A c F := ⟨h.1.keep KTr_pos st, h.2⟩
theorem TrR.ext {w' : World} {A : Option Addr} {c : Nat} {F : List (Int × Es)} (h : TrR Ω w A c F) (e : Ext w w') : TrR Ω w' A c F := h.keep (e.step Ω)
theorem with_spec {A : Option Addr} {c : Nat} {F : List (Int × Es)} (h : TrR Ω w A c F) (hΩ : ∀ k, Ω k → k < w.heap.size) (hl : F.length ≤ 1000000) {i : Nat} {r : Int} {es0 es : Es} (hi : F[i]? = some (r, es0)) (last : Int) {L : Option Addr} {lc : Nat} (hL : Imm KEn Ω w L es) (hlc : es.length ≤ lc) :
    CallsV Try.prog 66 #[trV A c F last, iv i, .slice L es.length lc] w fun v w' => ∃ A' c', v = trV A' c' (F.set i (r, es)) last ∧ TrR Ω w' A' c' (F.set i (r, es)) ∧ Ext w w' := by
  refine cardindexref04_Trees_with.calls okay ?_
  unfold cardindexref04_Trees_with.W
  intro g w1 f1 g1 w2 f2
  have hg1 : g1 ≠ g := by have := f2.ge; have := f1.lt; omega
  have e2 : Ext w w2 := f1.ext.trans' f2.ext
  have hgw : w.heap.size ≤ g := f1.ge
  have hg1w : w.heap.size ≤ g1 := Nat.le_trans f1.ext.size f2.ge
  have hGl : (F.set i (r, es)).length = F.length := by simp
  generalize hG : F.set i (r, es) = G at *
  refine ⟨fun X n cc x u => ∃ j : Nat, x = (j : Int) ∧ j ≤ F.length ∧ n = j ∧ Ext w2 u ∧ OwnK (Kd.fix Ω w KTr) u X cc (G.take j) ∧ ∀ k, ownB X k → w2.heap.size ≤ k, fun _ _ _ x _ => (F.length - x).toNat, ⟨0, rfl, Nat.zero_le _, rfl, .refl _ _, by rw [List.take_zero]; exact OwnK.nil _ _, fun k hk => (ownB_none k hk).elim⟩, ?_⟩
  rintro X j cc _ u ⟨j0, rfl, hj, rfl, eu, hO, hX⟩
  have ew : Ext w u := e2.trans' eu
  have hbg : Blk u g [.slice A F.length c, .int .i64 last] := (f1.blk.ext f2.ext).ext eu
  have hbg1 : Blk u g1 [.slice none 0 0, .int .i64 0] := f2.blk.ext eu
  refine ⟨_, _, _, hbg.cell rfl, brd (fun hlt => ?_) (fun hge => ?_)⟩
  · have hjl : j < F.length := by omega
    have hFj : F[j]? = some (F[j].1, F[j].2) := List.getElem?_eq_getElem hjl
    obtain ⟨ad, B, cB, hA, c0, c1, hcB, hB⟩ := trCell h.1 hFj
    refine ⟨_, _, _, hbg.cell rfl, ad, hA, ⟨by omega, by omega⟩, _, by rw [Int.toNat_natCast]; exact Ext.cell ew c0, _, _, _, by rw [Int.toNat_natCast]; exact Ext.cell ew c1, ?_⟩
    intro g3 u1 f3
    refine ⟨f3.blk.stOK (o := 0) [_, _] 0 (by simp), fun u2 hu2 => ?_⟩
    have b2 : Blk u2 g3 [.int .i64 F[j].1, .slice B F[j].2.length cB] := by rw [hu2]; exact Blk.setAll (o := 0) [.int .i64 F[j].1, .slice B F[j].2.length cB] 0 f3.blk
    have s2 : Ext u u2 := by rw [hu2]; exact f3.ext.setAll f3.ge _ _
    have htk : ∀ p, G[j]? = some p → G.take (j + 1) = G.take j ++ [p] := fun p hp => by rw [List.take_add_one, hp]; rfl
    -- what is pushed
    have push : ∀ {v : World} {p : Int × Es} {cs : List Value}, Ext u v → G[j]? = some p → KTr.rep Ω w p cs → ∃ x18 x19 x20 u', RunsTo Try.prog (Builtin.append_ #[65, 65] 65 #[.slice X j cc, .slice (some ⟨v.heap.size, 0, none⟩) 1 1]) (v.alloc (.cells cs.toArray 82)) (.slice x18 x19 x20) u' ∧ (∃ j' : Nat, IntKind.i64.wrap ((j : Int) + 1) = (j' : Int) ∧ j' ≤ F.length ∧ x19 = j' ∧ Ext w2 u' ∧ OwnK (Kd.fix Ω w KTr) u' x18 x20 (G.take j') ∧ ∀ k, ownB x18 k → w2.heap.size ≤ k) ∧ ((F.length : Int) - IntKind.i64.wrap ((j : Int) + 1)).toNat < ((F.length : Int) - (j : Int)).toNat := by
      intro v p cs ev hp hr
      have hO' : OwnK (Kd.fix Ω w KTr) v X cc (G.take j) := hO.fr ev (fun _ _ h => h) (fun _ _ _ h => h)
      obtain ⟨A', c', u', hrun, ho', gr⟩ := hO'.push (K := Kd.fix Ω w KTr) slT (ty := 65) (a := p) (cs := cs) hr (oneTr hr) (e' := 82) (by simp [maxLen]; omega) (by simp; omega)
      rw [show (G.take j).length = j by simp; omega] at hrun
      have hsz : w2.heap.size ≤ v.heap.size := Nat.le_trans eu.size ev.size
      rw [wi _ (by omega) (by omega)]
      refine ⟨_, _, _, u', hrun, ⟨j + 1, by omega, by omega, by simp; omega, (eu.trans' ev).trans gr.fr (fun _ _ h => h) (fun k hk ho => by have := hX k ho; omega), by rw [htk p hp]; exact ho', fun k hk => ?_⟩, by omega⟩
      rcases gr.sub k hk with h | h
      · exact hX k h
      · omega
    refine brd (fun he => ?_) (fun hne => ?_)
    · have hij : i = j := by omega
      subst hij
      obtain ⟨p1, p2⟩ := setF b2 (o := 1) (by simp) (.slice L es.length lc)
      refine ⟨p1, fun u3 hu3 => ?_⟩
      obtain ⟨b3, f4⟩ := p2 u3 hu3
      have s3 : Ext u u3 := s2.trans f4 (fun _ _ h => h) (fun k hk e => by have := f3.ge; omega)
      have hri : F[i].1 = r := by rw [hFj] at hi; have := Option.some.inj hi; exact (Prod.mk.inj this).1
      refine ⟨_, b3.cell rfl, _, _, _, b3.cell rfl, ?_⟩
      rintro g4 u4 ⟨rfl, rfl⟩
      exact push s3 (p := (r, es)) (by rw [← hG, List.getElem?_set_self hjl]) (by rw [hri]; exact repTr hlc hL)
    · have hij : i ≠ j := by omega
      refine ⟨_, b2.cell rfl, _, _, _, b2.cell rfl, ?_⟩
      rintro g4 u4 ⟨rfl, rfl⟩
      exact push s2 (p := (F[j].1, F[j].2)) (by rw [← hG, List.getElem?_set_ne hij]; exact hFj) (repTr hcB hB)
  · obtain rfl : j = F.length := by omega
    rw [← hGl, List.take_length] at hO
    refine finT (K := fun v w' => ∃ A' c', v = trV A' c' G last ∧ TrR Ω w' A' c' G ∧ Ext w w') ew hbg hbg1 hg1 hgw hg1w fun u' e' f' => ⟨X, cc, by unfold trV; rw [hGl], ⟨?_, ?_⟩, e'⟩
    · refine unfixI KTr_pos (hO.fr f' (fun k hk hs => ?_) (fun _ _ _ h => h)) e' fun k hk ho => by have := hX k hk; have := hΩ k ho; have := e2.size; omega
      have := hX k hk
      have := f2.lt
      have := f1.lt
      have := f2.ext.size
      rcases hs with rfl | rfl <;> omega
    · obtain ⟨xs, ho, _⟩ := hO; exact ho.le
theorem Create_specR {A : Option Addr} {c : Nat} {F : List (Int × Es)} (h : TrR Ω w A c F) (hΩ : ∀ k, Ω k → k < w.heap.size) (hl : F.length ≤ 1000000) (last : Nat) (hla : last ≤ 1000000) :
    CallsV Try.prog 40 #[trV A c F last] w fun v w' => ∃ A' c', v = trV A' c' (F ++ [(((last + 1 : Nat) : Int), [])]) ((last + 1 : Nat) : Int) ∧ TrR Ω w' A' c' (F ++ [(((last + 1 : Nat) : Int), [])]) ∧ Ext w w' := by
  refine cardindexref04_Trees_Create.calls okay ?_
  unfold cardindexref04_Trees_Create.W
  intro g w1 f1 g1 w2 f2
  have hg1 : g1 ≠ g := by have := f2.ge; have := f1.lt; omega
  have e2 : Ext w w2 := f1.ext.trans' f2.ext
  have hgw : w.heap.size ≤ g := f1.ge
  have hg1w : w.heap.size ≤ g1 := Nat.le_trans f1.ext.size f2.ge
  have bg : Blk w2 g [.slice A F.length c, .int .i64 (last : Int)] := f1.blk.ext f2.ext
  have hF : Imm (Kd.fix Ω w KTr) NoB w2 A F := (fixI h.1).ext KTr_pos e2
  obtain ⟨A1, c1, w3, hr3, ho3, g3⟩ := appFix (K := KTr) slT oneTr (ty := 65) (OwnK.nil (Kd.fix Ω w KTr) w2) hF (cb := c) (fun k hk => (ownB_none k hk).elim) (by simp [maxLen]; omega) (by simp; omega)
  rw [List.nil_append] at hr3 ho3
  have e3 : Ext w2 w3 := g3.fr.mono (fun k _ hk => (ownB_none k hk).elim)
  have hX : ∀ k, ownB A1 k → w2.heap.size ≤ k := fun k hk => (g3.sub k hk).resolve_left fun h => (ownB_none k h).elim
  have bg3 := bg.ext e3
  have bg13 : Blk w3 g1 [.slice none 0 0, .int .i64 0] := f2.blk.ext e3
  obtain ⟨p1, p2⟩ := setF bg3 (o := 1) (by simp) (.int .i64 ((last + 1 : Nat) : Int))
  have hw : IntKind.i64.wrap ((last : Int) + 1) = ((last + 1 : Nat) : Int) := by rw [wi _ (by omega) (by omega)]; omega
  refine ⟨_, _, _, bg.cell rfl, _, _, _, w3, hr3, _, bg3.cell rfl, by rw [hw]; exact p1, fun w4 hw4 => ?_⟩
  rw [hw] at hw4
  obtain ⟨b4, f4⟩ := p2 w4 hw4
  have hgl : g < w2.heap.size := bg.lt
  have hg1l : g1 < w2.heap.size := f2.lt
  refine ⟨_, b4.cell rfl, ?_⟩
  rintro g5 w5 ⟨rfl, rfl⟩
  have ho4 : OwnK (Kd.fix Ω w KTr) w4 A1 c1 F := ho3.fr f4 (fun k hk e => by have := hX k hk; omega) (fun _ _ _ h => h)
  have hrep : KTr.rep Ω w (((last + 1 : Nat) : Int), []) [.int .i64 ((last + 1 : Nat) : Int), .slice none 0 0] := repTr (es := []) (Nat.zero_le _) (Imm.nil KEn Ω w none)
  obtain ⟨A6, c6, w6, hr6, ho6, g6⟩ := ho4.push (K := Kd.fix Ω w KTr) slT (ty := 65) (cs := [.int .i64 ((last + 1 : Nat) : Int), .slice none 0 0]) hrep (oneTr hrep) (e' := 82) (by simp [maxLen]; omega) (by omega)
  have hX6 : ∀ k, ownB A6 k → w2.heap.size ≤ k := fun k hk => by
    rcases g6.sub k hk with h | h
    · exact hX k h
    · have := f4.size; have := e3.size; omega
  have off : ∀ k, ownB A1 k → k ≠ g ∧ k ≠ g1 := fun k hk => by have := hX k hk; omega
  have b6 : Blk w6 g [.slice A F.length c, .int .i64 ((last + 1 : Nat) : Int)] := b4.keep g6.fr fun hk => (off _ hk).1 rfl
  have b16 : Blk w6 g1 [.slice none 0 0, .int .i64 0] := (bg13.keep f4 hg1).keep g6.fr fun hk => (off _ hk).2 rfl
  have e4 : Ext w w4 := (e2.trans' e3).trans f4 (fun _ _ h => h) (fun k hk e => by omega)
  have e6 : Ext w w6 := e4.trans g6.fr (fun _ _ h => h) (fun k hk ho => by have := hX k ho; have := e2.size; omega)
  refine ⟨_, _, _, w6, hr6, ?_⟩
  refine finT (K := fun v w' => ∃ A' c', v = trV A' c' (F ++ [(((last + 1 : Nat) : Int), [])]) ((last + 1 : Nat) : Int) ∧ TrR Ω w' A' c' (F ++ [(((last + 1 : Nat) : Int), [])]) ∧ Ext w w') e6 b6 b16 hg1 hgw hg1w fun u' e' f' => ⟨A6, c6, rfl, ⟨?_, ?_⟩, e'⟩
  · refine unfixI KTr_pos (ho6.fr f' (fun k hk hs => ?_) (fun _ _ _ h => h)) e' fun k hk ho => by have := hX6 k hk; have := hΩ k ho; have := e2.size; omega
    have := hX6 k hk
    rcases hs with rfl | rfl <;> omega
  · obtain ⟨xs, ho, _⟩ := ho6; exact ho.le
theorem Drop_specR {A : Option Addr} {c : Nat} {F : List (Int × Es)} (h : TrR Ω w A c F) (hΩ : ∀ k, Ω k → k < w.heap.size) (hl : F.length ≤ 1000000) {F1 F2 : List (Int × Es)} {p0 : Int × Es} (hF : F = F1 ++ p0 :: F2) (last : Int) :
    CallsV Try.prog 41 #[trV A c F last, iv F1.length] w fun v w' => ∃ A' c', v = trV A' c' (F1 ++ F2) last ∧ TrR Ω w' A' c' (F1 ++ F2) ∧ Ext w w' := by
  refine cardindexref04_Trees_Drop.calls okay ?_
  unfold cardindexref04_Trees_Drop.W
  intro g w1 f1 g1 w2 f2
  have hg1 : g1 ≠ g := by have := f2.ge; have := f1.lt; omega
  have e2 : Ext w w2 := f1.ext.trans' f2.ext
  have hgw : w.heap.size ≤ g := f1.ge
  have hg1w : w.heap.size ≤ g1 := Nat.le_trans f1.ext.size f2.ge
  generalize hi : F1.length = i at *
  have hle : ∀ j, (if j ≤ i then F.take j else F1 ++ F2.take (j - i - 1)).length ≤ j := fun j => by
    split
    · rw [List.length_take]; omega
    · rw [List.length_append, List.length_take]; omega
  refine ⟨fun X n cc x u => ∃ j : Nat, x = (j : Int) ∧ j ≤ F.length ∧ n = (if j ≤ i then F.take j else F1 ++ F2.take (j - i - 1)).length ∧ Ext w2 u ∧ OwnK (Kd.fix Ω w KTr) u X cc (if j ≤ i then F.take j else F1 ++ F2.take (j - i - 1)) ∧ ∀ k, ownB X k → w2.heap.size ≤ k, fun _ _ _ x _ => (F.length - x).toNat, ⟨0, rfl, Nat.zero_le _, by simp, .refl _ _, by rw [if_pos (Nat.zero_le _), List.take_zero]; exact OwnK.nil _ _, fun k hk => (ownB_none k hk).elim⟩, ?_⟩
  rintro X n cc _ u ⟨j, rfl, hj, rfl, eu, hO, hX⟩
  have ew : Ext w u := e2.trans' eu
  have hbg : Blk u g [.slice A F.length c, .int .i64 last] := (f1.blk.ext f2.ext).ext eu
  have hbg1 : Blk u g1 [.slice none 0 0, .int .i64 0] := f2.blk.ext eu
  have hll := hle j
  refine ⟨_, _, _, hbg.cell rfl, brd (fun hlt => ?_) (fun hge => ?_)⟩
  · have hjl : j < F.length := by omega
    have hFj : F[j]? = some (F[j].1, F[j].2) := List.getElem?_eq_getElem hjl
    rw [wi _ (by omega) (by omega)]
    refine brn (fun hne => ?_) (fun he => ?_)
    · have hji : j ≠ i := by omega
      obtain ⟨ad, B, cB, hA, c0, c1, hcB, hB⟩ := trCell h.1 hFj
      refine ⟨_, _, _, hbg.cell rfl, ad, hA, ⟨by omega, by omega⟩, _, by rw [Int.toNat_natCast]; exact Ext.cell ew c0, _, _, _, by rw [Int.toNat_natCast]; exact Ext.cell ew c1, ?_⟩
      rintro g4 u4 ⟨rfl, rfl⟩
      have hrep : KTr.rep Ω w (F[j].1, F[j].2) [.int .i64 F[j].1, .slice B F[j].2.length cB] := repTr hcB hB
      obtain ⟨A', c', u', hrun, ho', gr⟩ := hO.push (K := Kd.fix Ω w KTr) slT (ty := 65) (cs := [.int .i64 F[j].1, .slice B F[j].2.length cB]) hrep (oneTr hrep) (e' := 82) (by simp only [maxLen]; omega) (by omega)
      have hnew : (if j + 1 ≤ i then F.take (j + 1) else F1 ++ F2.take (j + 1 - i - 1)) = (if j ≤ i then F.take j else F1 ++ F2.take (j - i - 1)) ++ [(F[j].1, F[j].2)] := by
        by_cases h1 : j < i
        · rw [if_pos (by omega), if_pos (by omega), List.take_add_one, hFj]; rfl
        · rw [if_neg (by omega), if_neg (by omega), List.append_assoc]
          have hF2 : F2[j - i - 1]? = some (F[j].1, F[j].2) := by
            rw [← hFj, hF, List.getElem?_append_right (by omega), hi, List.getElem?_cons, if_neg (by omega)]
          rw [show j + 1 - i - 1 = (j - i - 1) + 1 by omega, List.take_add_one, hF2]; rfl
      refine ⟨_, _, _, u', hrun, ⟨j + 1, by omega, by omega, by rw [hnew], eu.trans gr.fr (fun _ _ h => h) (fun k hk ho => by have := hX k ho; omega), by rw [hnew]; exact ho', fun k hk => ?_⟩, by dsimp only; omega⟩
      rcases gr.sub k hk with h | h
      · exact hX k h
      · exact Nat.le_trans eu.size h
    · have hji : j = i := by omega
      subst hji
      have hnew : (if j + 1 ≤ j then F.take (j + 1) else F1 ++ F2.take (j + 1 - j - 1)) = (if j ≤ j then F.take j else F1 ++ F2.take (j - j - 1)) := by
        rw [if_neg (by omega), if_pos (Nat.le_refl _), show j + 1 - j - 1 = 0 by omega, List.take_zero, List.append_nil, hF, ← hi, List.take_left']
        rfl
      exact ⟨⟨j + 1, by omega, by omega, by rw [hnew], eu, by rw [hnew]; exact hO, hX⟩, by dsimp only; omega⟩
  · obtain rfl : j = F.length := by omega
    have hlen : F.length = i + 1 + F2.length := by rw [hF, List.length_append, List.length_cons, hi]; omega
    have hfin : (if F.length ≤ i then F.take F.length else F1 ++ F2.take (F.length - i - 1)) = F1 ++ F2 := by
      rw [if_neg (by omega), show F.length - i - 1 = F2.length by omega, List.take_length]
    rw [hfin] at hO ⊢
    refine finT (K := fun v w' => ∃ A' c', v = trV A' c' (F1 ++ F2) last ∧ TrR Ω w' A' c' (F1 ++ F2) ∧ Ext w w') ew hbg hbg1 hg1 hgw hg1w fun u' e' f' => ⟨X, cc, rfl, ⟨?_, ?_⟩, e'⟩
    · refine unfixI KTr_pos (hO.fr f' (fun k hk hs => ?_) (fun _ _ _ h => h)) e' fun k hk ho => by have := hX k hk; have := hΩ k ho; have := e2.size; omega
      have := hX k hk
      have := f2.lt
      have := f1.lt
      have := f2.ext.size
      rcases hs with rfl | rfl <;> omega
    · obtain ⟨xs, ho, _⟩ := hO; exact ho.le
end
end Go.Proofs.Ytadlhdiejmilmaa
/- Layer 4: the document's answer: an entry put, taken away, told. -/
set_option linter.unusedVariables false
set_option linter.unusedSimpArgs false
namespace Go.Proofs.Ytadlhdiejmilmaa
open Go Go.Sx T4
section
variable {w : World} {Ω : Nat → Prop}
theorem immLt {α : Type} {K : Kd α} (hz : 0 < K.size) {A : Option Addr} {l : List α} (h : Imm K Ω w A l) (hl : l ≠ []) : ∀ k, ownB A k → k < w.heap.size := by
  intro k ⟨ad, hA, hk⟩
  obtain ⟨ad', h1, _, cs, hr, hc⟩ := h 0 (l.head hl) (by cases l with | nil => exact absurd rfl hl | cons a l => rfl)
  rw [hA] at h1; cases h1; subst hk
  have hlen := K.len hr
  obtain ⟨v, hv⟩ : ∃ v, cs[0]? = some v := ⟨_, List.getElem?_eq_getElem (by omega)⟩
  have := hc 0 v hv
  refine Classical.byContradiction fun hn => ?_
  rw [Nat.zero_mul, Nat.zero_add, add_zero'] at this
  simp [World.cell?, Array.getElem?_eq_none (Nat.le_of_not_lt hn)] at this
theorem ownB_cut {A : Option Addr} {m lo sz k : Nat} (h : ownB (cutAt A m lo sz) k) : ownB A k := by
  obtain ⟨ad, hA, hk⟩ := h
  unfold cutAt at hA
  split at hA
  · exact ⟨ad, hA, hk⟩
  · cases A with
    | none => cases hA
    | some a => simp at hA; subst hA; exact ⟨a, rfl, by rw [add_block] at hk; exact hk⟩
/-- a part of what is read, told of in the same world -/
theorem fixCut {E : Option Addr} {es : Es} (h : Imm KEn Ω w E es) {lo hi m : Nat} (h1 : hi ≤ m) : Imm (Kd.fix Ω w KEn) NoB w (cutAt E m lo 2) ((es.take hi).drop lo) := (fixI h).cut (K := Kd.fix Ω w KEn) h1
theorem Put_specR {A : Option Addr} {c : Nat} {F : List (Int × Es)} (h : TrR Ω w A c F) (hΩ : ∀ k, Ω k → k < w.heap.size) (hl : F.length ≤ 1000000) {i : Nat} {r : Int} {es : Es} (hi : F[i]? = some (r, es)) (hel : es.length ≤ 100000) (last : Int) {Ω1 Ω2 : Nat → Prop} {KA VA : Option Addr} {key val : Key} (hK : Imm KB Ω1 w KA key) (hV : Imm KB Ω2 w VA val) (kc vc : Nat) (hkl : key.length ≤ 1048576) (hvl : val.length ≤ 1048576) (hks : ∀ p ∈ es, p.1.length ≤ 1048576) :
    CallsV Try.prog 38 #[trV A c F last, iv i, .slice KA key.length kc, .slice VA val.length vc] w fun v w' => ∃ A' c', v = trV A' c' (F.set i (r, insE key val es)) last ∧ TrR Ω w' A' c' (F.set i (r, insE key val es)) ∧ Ext w w' := by
  refine cardindexref04_Trees_Put.calls okay ?_
  unfold cardindexref04_Trees_Put.W
  intro g w1 f1 g1 w2 f2
  have hg1 : g1 ≠ g := by have := f2.ge; have := f1.lt; omega
  have e2 : Ext w w2 := f1.ext.trans' f2.ext
  have hgw : w.heap.size ≤ g := f1.ge
  have hg1w : w.heap.size ≤ g1 := Nat.le_trans f1.ext.size f2.ge
  have bg : Blk w2 g [.slice A F.length c, .int .i64 last] := f1.blk.ext f2.ext
  have bg1 : Blk w2 g1 [.slice none 0 0, .int .i64 0] := f2.blk
  have hgl := bg.lt
  have hg1l := bg1.lt
  obtain ⟨Ω1, hΩe⟩ : ∃ Ω1 : Nat → Prop, Ω1 = fun k => Ω k ∨ k = g1 := ⟨_, rfl⟩
  have hΩ1 : ∀ k, Ω1 k → k < w2.heap.size := fun k hk => by
    rw [hΩe] at hk
    rcases hk with hk | rfl
    · exact Nat.lt_of_lt_of_le (hΩ k hk) e2.size
    · exact hg1l
  have stE : ∀ {u}, Ext w u → Step Ω w Ω1 u := fun e => ⟨e.size, fun k hk _ => e.block k hk fun h => h, fun k hk h => by
    rw [hΩe] at h
    rcases h with h | h
    · exact h
    · omega⟩
  obtain ⟨ad, E, ce, hA, c0, c1, hce, hE⟩ := trCell h.1 hi
  have hil := (List.getElem?_eq_some_iff.1 hi).1
  have hple := pos_le (keysE es) key
  rw [keysE_length] at hple
  have hcut := insE_cut key val es
  refine ⟨_, _, _, bg.cell rfl, _, bg.cell rfl, (Place_spec (h.1.ext KTr_pos e2) hi (by omega) last (hK.ext KB_pos e2) kc hks).mono ?_⟩
  rintro _ w3 ⟨rfl, e3⟩
  have hhas : has (keysE es) key = true → pos (keysE es) key < es.length := fun hh => by
    unfold has at hh
    have := (List.getElem?_eq_some_iff.1 (of_decide_eq_true hh)).1
    rwa [keysE_length] at this
  generalize hk : pos (keysE es) key = k at *
  generalize hb : has (keysE es) key = b at *
  have e23 : Ext w w3 := e2.trans' e3
  obtain ⟨X5, c5, w4, hr4, ho4, g4⟩ := (OwnK.nil KB w3).append (K := KB) slB (ty := 36) (cb := kc) (m := key) (fun j a ha => by obtain ⟨ad, h1, _, cs, h3, h4⟩ := (hK.ext KB_pos e23) j a ha; exact ⟨ad, h1, fun h => ownB_none _ h, cs, h3, h4⟩) (fun a cs h => oneB.one h) (by simp [maxLen]; omega) (by simp; omega)
  rw [List.nil_append] at hr4 ho4
  have e4 : Ext w3 w4 := g4.fr.mono (fun k _ hk => (ownB_none k hk).elim)
  have n5 : ∀ k, ownB X5 k → w3.heap.size ≤ k := fun k hk => (g4.sub k hk).resolve_left fun h => (ownB_none k h).elim
  have e24 : Ext w w4 := e23.trans' e4
  obtain ⟨X6, c6, w5, hr5, ho5, g5⟩ := (OwnK.nil KB w4).append (K := KB) slB (ty := 36) (cb := vc) (m := val) (fun j a ha => by obtain ⟨ad, h1, _, cs, h3, h4⟩ := (hV.ext KB_pos e24) j a ha; exact ⟨ad, h1, fun h => ownB_none _ h, cs, h3, h4⟩) (fun a cs h => oneB.one h) (by simp [maxLen]; omega) (by simp; omega)
  rw [List.nil_append] at hr5 ho5
  have e5 : Ext w4 w5 := g5.fr.mono (fun k _ hk => (ownB_none k hk).elim)
  have n6 : ∀ k, ownB X6 k → w4.heap.size ≤ k := fun k hk => (g5.sub k hk).resolve_left fun h => (ownB_none k h).elim
  have e25 : Ext w w5 := e24.trans' e5
  refine ⟨_, _, rfl, _, _, _, w4, hr4, _, _, _, w5, hr5, ?_⟩
  intro g2 w6 f6
  refine ⟨f6.blk.stOK (o := 0) [_, _] 0 (by simp), fun w7 hw7 => ?_⟩
  have b7 : Blk w7 g2 [.slice X5 key.length c5, .slice X6 val.length c6] := by rw [hw7]; exact Blk.setAll (o := 0) [.slice X5 key.length c5, .slice X6 val.length c6] 0 f6.blk
  have e57 : Ext w5 w7 := by rw [hw7]; exact f6.ext.setAll f6.ge _ _
  have e7 : Ext w w7 := e25.trans' e57
  have e27 : Ext w2 w7 := ((e3.trans' e4).trans' e5).trans' e57
  have bg7 := bg.ext e27
  have l5 : key.length ≤ c5 := by obtain ⟨xs, ho, _⟩ := ho4; exact ho.le
  have l6 : val.length ≤ c6 := by obtain ⟨xs, ho, _⟩ := ho5; exact ho.le
  have sz2 := e2.size; have sz23 := e23.size; have sz24 := e24.size; have sz7 := e7.size
  have i5 : Imm KB Ω1 w7 X5 key := by
    obtain ⟨xs, ho, hr⟩ := ho4
    exact (Own.imm (K := KB) (Ω := Ω1) KB_pos ho (fun k hk hω => by have := n5 k hk; have := hΩ1 k hω; have := e3.size; omega) fun j a ha => hr j a ha).ext KB_pos (e5.trans' e57)
  have i6 : Imm KB Ω1 w7 X6 val := by
    obtain ⟨xs, ho, hr⟩ := ho5
    exact (Own.imm (K := KB) (Ω := Ω1) KB_pos ho (fun k hk hω => by have := n6 k hk; have := hΩ1 k hω; have := e3.size; have := e4.size; omega) fun j a ha => hr j a ha).ext KB_pos e57
  have hE7 : Imm KEn Ω1 w7 E es := hE.keep KEn_pos (stE e7)
  obtain ⟨X8, c8, w8, hr8, ho8, g8⟩ := appFix (w := w7) (Ω := Ω1) (K := KEn) slE oneEn (ty := 80) (OwnK.nil (Kd.fix Ω1 w7 KEn) w7) (fixCut hE7 (lo := 0) (hi := k) (m := ce) (by omega)) (cb := ce) (fun k hk => (ownB_none k hk).elim) (by simp [maxLen]; omega) (by simp; omega)
  rw [List.nil_append, List.drop_zero] at hr8 ho8
  have lk : (es.take k).length = k := by rw [List.length_take]; omega
  rw [lk] at hr8
  have e8 : Ext w7 w8 := g8.fr.mono (fun k _ hk => (ownB_none k hk).elim)
  have n8 : ∀ k, ownB X8 k → w7.heap.size ≤ k := fun k hk => (g8.sub k hk).resolve_left fun h => (ownB_none k h).elim
  have b8 := b7.ext e8
  refine ⟨_, _, _, bg7.cell rfl, ad, hA, ⟨by omega, by omega⟩, _, _, _, by rw [Int.toNat_natCast]; exact Ext.cell e7 c1, ⟨by omega, by omega⟩, _, _, _, w8, by rw [Int.toNat_natCast, Nat.sub_zero, Nat.sub_zero]; exact hr8, _, _, _, b8.cell rfl, _, _, _, b8.cell rfl, ?_⟩
  rintro g3 w8' ⟨rfl, rfl⟩
  have hrep : KEn.rep Ω1 w7 (key, val) [.slice X5 key.length c5, .slice X6 val.length c6] := repEn l5 l6 i5 i6
  obtain ⟨X9, c9, w9, hr9, ho9, g9⟩ := ho8.push (K := Kd.fix Ω1 w7 KEn) slE (ty := 80) (a := (key, val)) (cs := [.slice X5 key.length c5, .slice X6 val.length c6]) hrep (oneEn hrep) (e' := 119) (by rw [lk]; simp only [maxLen]; omega) (by rw [lk]; omega)
  rw [lk] at hr9
  have n9 : ∀ k, ownB X9 k → w7.heap.size ≤ k := fun k hk => by
    rcases g9.sub k hk with h | h
    · exact n8 k h
    · have := e8.size; omega
  have e79 : Ext w7 w9 := e8.trans g9.fr (fun _ _ h => h) (fun k hk ho => by have := n8 k ho; omega)
  refine ⟨_, _, _, w9, hr9, fun x u => x = ((k + (if b then 1 else 0) : Nat) : Int) ∧ u = w9, ?_, ?_⟩
  · rintro _ u0 ⟨rfl, hu0⟩
    obtain rfl : w9 = u0 := hu0.symm
    have hk'l : k + (if b = true then 1 else 0) ≤ es.length := by
      cases b with
      | true => have := hhas rfl; simp; omega
      | false => simp; omega
    generalize hkk : k + (if b = true then 1 else 0) = k' at *
    have bg9 : Blk w9.drew g [.slice A F.length c, .int .i64 last] := (bg7.ext e79).ext (Fr.drew NoB w9)
    have bg19 : Blk w9.drew g1 [.slice none 0 0, .int .i64 0] := ((bg1.ext e27).ext e79).ext (Fr.drew NoB w9)
    have ed : Ext w7 w9.drew := e79.drew
    have hB10 : Imm (Kd.fix Ω1 w7 KEn) NoB w9.drew (cutAt E ce k' 2) (es.drop k') := by
      have := (fixCut hE7 (lo := k') (hi := es.length) (m := ce) hce).ext (show 0 < (Kd.fix Ω1 w7 KEn).size from KEn_pos) ed
      rwa [List.take_length] at this
    have off10 : ∀ j, ownB X9 j → ¬ ownB (cutAt E ce k' 2) j ∨ es.drop k' = [] := fun j hj => by
      by_cases hne : es = []
      · right; rw [hne]; simp
      · left; intro hj'; have := immLt KEn_pos hE hne j (ownB_cut hj'); have := n9 j hj; omega
    obtain ⟨X10, c10, w10, hr10, ho10, g10⟩ := appFix (w := w7) (Ω := Ω1) (K := KEn) slE oneEn (ty := 80) (ho9.fr (Fr.drew NoB w9) (fun _ _ h => h) (fun _ _ _ h => h)) hB10 (cb := ce - k') off10 (by simp [maxLen]; omega) (by simp; omega)
    rw [List.length_drop] at hr10
    have n10 : ∀ j, ownB X9 j → j ≠ g ∧ j ≠ g1 := fun j hj => by have := n9 j hj; have := e27.size; omega
    have b10 : Blk w10 g [.slice A F.length c, .int .i64 last] := bg9.keep g10.fr fun hj => (n10 _ hj).1 rfl
    have b110 : Blk w10 g1 [.slice none 0 0, .int .i64 0] := bg19.keep g10.fr fun hj => (n10 _ hj).2 rfl
    have e710 : Ext w7 w10 := ed.trans g10.fr (fun _ _ h => h) (fun j hj ho => by have := n9 j ho; omega)
    have e10 : Ext w w10 := e7.trans' e710
    refine ⟨fun u => Blk u g [.slice A F.length c, .int .i64 last], bg9, _, _, _, fun u hu => hu.cell rfl, _, fun u hu => hu.cell rfl, ⟨by omega, by omega⟩, _, _, _, w10, by rw [Int.toNat_natCast]; exact hr10, b10, ?_⟩
    rw [List.append_assoc, List.singleton_append, ← hcut] at ho10
    have hL : Imm KEn Ω1 w10 X10 (insE key val es) := unfixI KEn_pos ho10 e710 fun j hj hω => by
      have := hΩ1 j hω
      have := e27.size
      rcases g10.sub j hj with h | h
      · have := n9 j h; omega
      · have := ed.size; omega
    have hll : (es.take k ++ [(key, val)] ++ es.drop k').length = (insE key val es).length := by rw [List.append_assoc, List.singleton_append, ← hcut]
    rw [hll]
    refine (with_spec (h.keep (stE e10)) (fun k hk => Nat.lt_of_lt_of_le (hΩ1 k hk) (Nat.le_trans e27.size e710.size)) hl hi last hL (by obtain ⟨xs, ho, _⟩ := ho10; exact ho.le)).mono ?_
    rintro _ w11 ⟨A', c', rfl, hT, e11⟩
    refine ⟨_, _, _, _, rfl, ?_⟩
    refine finC (K := fun v w' => ∃ A' c', v = trV A' c' (F.set i (r, insE key val es)) last ∧ TrR Ω w' A' c' (F.set i (r, insE key val es)) ∧ Ext w w') (e10.trans' e11) (b110.ext e11) hg1w fun u' e' f' => ⟨A', c', rfl, ?_, e'⟩
    refine TrR.keep (hT.keep (f'.step (Ω := Ω1) (Ω' := Ω1) (fun k _ hk => ?_) (fun _ _ h => h))) ⟨Nat.le_refl _, fun _ _ _ => rfl, fun k _ hk => ?_⟩
    · rw [hΩe]; exact .inr hk
    · rw [hΩe]; exact .inl hk
  · cases b with
    | true => exact ⟨by rw [wi _ (by omega) (by omega)]; rfl, rfl⟩
    | false => exact ⟨rfl, rfl⟩
theorem Delete_specR {A : Option Addr} {c : Nat} {F : List (Int × Es)} (h : TrR Ω w A c F) (hΩ : ∀ k, Ω k → k < w.heap.size) (hl : F.length ≤ 1000000) {i : Nat} {r : Int} {es : Es} (hi : F[i]? = some (r, es)) (hel : es.length ≤ 100000) (last : Int) {Ω1 : Nat → Prop} {KA : Option Addr} {key : Key} (hK : Imm KB Ω1 w KA key) (kc : Nat) (hks : ∀ p ∈ es, p.1.length ≤ 1048576) :
    CallsV Try.prog 39 #[trV A c F last, iv i, .slice KA key.length kc] w fun v w' => ∃ A' c', v = trV A' c' (F.set i (r, delE key es)) last ∧ TrR Ω w' A' c' (F.set i (r, delE key es)) ∧ Ext w w' := by
  refine cardindexref04_Trees_Delete.calls okay ?_
  unfold cardindexref04_Trees_Delete.W
  intro g w1 f1 g1 w2 f2
  have hg1 : g1 ≠ g := by have := f2.ge; have := f1.lt; omega
  have e2 : Ext w w2 := f1.ext.trans' f2.ext
  have hgw : w.heap.size ≤ g := f1.ge
  have hg1w : w.heap.size ≤ g1 := Nat.le_trans f1.ext.size f2.ge
  have bg : Blk w2 g [.slice A F.length c, .int .i64 last] := f1.blk.ext f2.ext
  have bg1 : Blk w2 g1 [.slice none 0 0, .int .i64 0] := f2.blk
  have hgl := bg.lt
  have hg1l := bg1.lt
  obtain ⟨Ω1, hΩe⟩ : ∃ Ω1 : Nat → Prop, Ω1 = fun k => Ω k ∨ k = g1 := ⟨_, rfl⟩
  have hΩ1 : ∀ k, Ω1 k → k < w2.heap.size := fun k hk => by
    rw [hΩe] at hk
    rcases hk with hk | rfl
    · exact Nat.lt_of_lt_of_le (hΩ k hk) e2.size
    · exact hg1l
  have stE : ∀ {u}, Ext w u → Step Ω w Ω1 u := fun e => ⟨e.size, fun k hk _ => e.block k hk fun h => h, fun k hk h => by
    rw [hΩe] at h
    rcases h with h | h
    · exact h
    · omega⟩
  obtain ⟨ad, E, ce, hA, c0, c1, hce, hE⟩ := trCell h.1 hi
  have hil := (List.getElem?_eq_some_iff.1 hi).1
  have hple := pos_le (keysE es) key
  rw [keysE_length] at hple
  refine ⟨_, _, _, bg.cell rfl, _, bg.cell rfl, (Place_spec (h.1.ext KTr_pos e2) hi (by omega) last (hK.ext KB_pos e2) kc hks).mono ?_⟩
  rintro _ w3 ⟨rfl, e3⟩
  have e23 : Ext w w3 := e2.trans' e3
  have bg3 := bg.ext e3
  have bg13 := bg1.ext e3
  have hhas : has (keysE es) key = true → pos (keysE es) key < es.length := fun hh => by
    unfold has at hh
    have := (List.getElem?_eq_some_iff.1 (of_decide_eq_true hh)).1
    rwa [keysE_length] at this
  refine ⟨_, _, rfl, brnb (fun hb => ?_) (fun hb => ?_)⟩
  · have hd : delE key es = es := del_no hb
    have hF : F.set i (r, es) = F := by
      apply List.ext_getElem?
      intro j
      rw [List.getElem?_set]
      by_cases hij : i = j
      · subst hij; rw [if_pos rfl, if_pos hil, hi]
      · rw [if_neg hij]
    rw [hd, hF]
    refine ⟨_, _, _, bg3.cell rfl, _, bg3.cell rfl, ?_⟩
    refine finC (K := fun v w' => ∃ A' c', v = trV A' c' F last ∧ TrR Ω w' A' c' F ∧ Ext w w') e23 bg13 hg1w fun u' e' f' => ⟨A, c, rfl, h.ext e', e'⟩
  · have hcut := delE_cut key hb
    have hkl' := hhas hb
    generalize hk : pos (keysE es) key = k at *
    have hE3 : Imm KEn Ω1 w3 E es := hE.keep KEn_pos (stE e23)
    obtain ⟨X8, c8, w8, hr8, ho8, g8⟩ := appFix (w := w3) (Ω := Ω1) (K := KEn) slE oneEn (ty := 80) (OwnK.nil (Kd.fix Ω1 w3 KEn) w3) (fixCut hE3 (lo := 0) (hi := k) (m := ce) (by omega)) (cb := ce) (fun k hk => (ownB_none k hk).elim) (by simp [maxLen]; omega) (by simp; omega)
    rw [List.nil_append, List.drop_zero] at hr8 ho8
    have lk : (es.take k).length = k := by rw [List.length_take]; omega
    rw [lk] at hr8
    have e8 : Ext w3 w8 := g8.fr.mono (fun k _ hk => (ownB_none k hk).elim)
    have n8 : ∀ k, ownB X8 k → w3.heap.size ≤ k := fun k hk => (g8.sub k hk).resolve_left fun h => (ownB_none k h).elim
    have bg9 : Blk w8.drew g [.slice A F.length c, .int .i64 last] := (bg3.ext e8).ext (Fr.drew NoB w8)
    have bg19 : Blk w8.drew g1 [.slice none 0 0, .int .i64 0] := (bg13.ext e8).ext (Fr.drew NoB w8)
    have ed : Ext w3 w8.drew := e8.drew
    have hB10 : Imm (Kd.fix Ω1 w3 KEn) NoB w8.drew (cutAt E ce (k + 1) 2) (es.drop (k + 1)) := by
      have := (fixCut hE3 (lo := k + 1) (hi := es.length) (m := ce) hce).ext (show 0 < (Kd.fix Ω1 w3 KEn).size from KEn_pos) ed
      rwa [List.take_length] at this
    have off10 : ∀ j, ownB X8 j → ¬ ownB (cutAt E ce (k + 1) 2) j ∨ es.drop (k + 1) = [] := fun j hj => by
      by_cases hne : es = []
      · right; rw [hne]; simp
      · left; intro hj'; have := immLt KEn_pos hE hne j (ownB_cut hj'); have := n8 j hj; have := e23.size; omega
    obtain ⟨X10, c10, w10, hr10, ho10, g10⟩ := appFix (w := w3) (Ω := Ω1) (K := KEn) slE oneEn (ty := 80) (ho8.fr (Fr.drew NoB w8) (fun _ _ h => h) (fun _ _ _ h => h)) hB10 (cb := ce - (k + 1)) off10 (by simp [maxLen]; omega) (by simp; omega)
    rw [lk, List.length_drop] at hr10
    have n10 : ∀ j, ownB X8 j → j ≠ g ∧ j ≠ g1 := fun j hj => by have := n8 j hj; have := e3.size; omega
    have b10 : Blk w10 g [.slice A F.length c, .int .i64 last] := bg9.keep g10.fr fun hj => (n10 _ hj).1 rfl
    have b110 : Blk w10 g1 [.slice none 0 0, .int .i64 0] := bg19.keep g10.fr fun hj => (n10 _ hj).2 rfl
    have e310 : Ext w3 w10 := ed.trans g10.fr (fun _ _ h => h) (fun j hj ho => by have := n8 j ho; omega)
    have e10 : Ext w w10 := e23.trans' e310
    have hw : IntKind.i64.wrap ((k : Int) + 1) = ((k + 1 : Nat) : Int) := by rw [wi _ (by omega) (by omega)]; omega
    refine ⟨_, _, _, bg3.cell rfl, ad, hA, ⟨by omega, by omega⟩, _, _, _, by rw [Int.toNat_natCast]; exact Ext.cell e23 c1, ⟨by omega, by omega⟩, _, _, _, w8, by rw [Int.toNat_natCast, Nat.sub_zero, Nat.sub_zero]; exact hr8, fun u => Blk u g [.slice A F.length c, .int .i64 last], bg9, _, _, _, fun u hu => hu.cell rfl, _, fun u hu => hu.cell rfl, ?_⟩
    rw [hw]
    refine ⟨⟨by omega, by omega⟩, _, _, _, w10, by rw [Int.toNat_natCast]; exact hr10, b10, ?_⟩
    rw [← hcut] at ho10
    have hL : Imm KEn Ω1 w10 X10 (delE key es) := unfixI KEn_pos ho10 e310 fun j hj hω => by
      have := hΩ1 j hω
      have := e3.size
      rcases g10.sub j hj with h | h
      · have := n8 j h; omega
      · have := ed.size; omega
    have hll : (es.take k ++ es.drop (k + 1)).length = (delE key es).length := by rw [← hcut]
    rw [hll]
    refine (with_spec (h.keep (stE e10)) (fun k hk => Nat.lt_of_lt_of_le (hΩ1 k hk) (Nat.le_trans e3.size e310.size)) hl hi last hL (by obtain ⟨xs, ho, _⟩ := ho10; exact ho.le)).mono ?_
    rintro _ w11 ⟨A', c', rfl, hT, e11⟩
    refine ⟨_, _, _, _, rfl, ?_⟩
    refine finC (K := fun v w' => ∃ A' c', v = trV A' c' (F.set i (r, delE key es)) last ∧ TrR Ω w' A' c' (F.set i (r, delE key es)) ∧ Ext w w') (e10.trans' e11) (b110.ext e11) hg1w fun u' e' f' => ⟨A', c', rfl, ?_, e'⟩
    refine TrR.keep (hT.keep (f'.step (Ω := Ω1) (Ω' := Ω1) (fun k _ hk => ?_) (fun _ _ h => h))) ⟨Nat.le_refl _, fun _ _ _ => rfl, fun k _ hk => ?_⟩
    · rw [hΩe]; exact .inr hk
    · rw [hΩe]; exact .inl hk
/-! ## told -/
def EnR (Ω : Nat → Prop) (w : World) (x : Option (Key × Key)) (v : Value) : Prop := match x with
  | none => v = .tuple #[.agg #[.slice none 0 0, .slice none 0 0], .bool false]
  | some (k, v') => ∃ A1 c1 A2 c2, v = .tuple #[.agg #[.slice A1 k.length c1, .slice A2 v'.length c2], .bool true] ∧ k.length ≤ c1 ∧ v'.length ≤ c2 ∧ Imm KB Ω w A1 k ∧ Imm KB Ω w A2 v'
theorem EnR.keep {x : Option (Key × Key)} {v : Value} {Ω' : Nat → Prop} {w' : World} (h : EnR Ω w x v) (st : Step Ω w Ω' w') : EnR Ω' w' x v := by
  cases x with
  | none => exact h
  | some p => obtain ⟨k, v'⟩ := p; obtain ⟨A1, c1, A2, c2, rfl, h1, h2, h3, h4⟩ := h; exact ⟨A1, c1, A2, c2, rfl, h1, h2, h3.keep KB_pos st, h4.keep KB_pos st⟩
theorem EnR.ext {x : Option (Key × Key)} {v : Value} {w' : World} (h : EnR Ω w x v) (e : Ext w w') : EnR Ω w' x v := by
  cases x with
  | none => exact h
  | some p => obtain ⟨k, v'⟩ := p; obtain ⟨A1, c1, A2, c2, rfl, h1, h2, h3, h4⟩ := h; exact ⟨A1, c1, A2, c2, rfl, h1, h2, h3.ext KB_pos e, h4.ext KB_pos e⟩
/-- what is told, in its parts -/
theorem EnR.form {x : Option (Key × Key)} {v : Value} (h : EnR Ω w x v) : ∃ A1 n1 c1 A2 n2 c2 b, v = .tuple #[.agg #[.slice A1 n1 c1, .slice A2 n2 c2], .bool b] := by
  cases x with
  | none => exact ⟨_, _, _, _, _, _, _, h⟩
  | some p => obtain ⟨k, v'⟩ := p; obtain ⟨A1, c1, A2, c2, h, _⟩ := h; exact ⟨_, _, _, _, _, _, _, h⟩
theorem finE {u : World} {g1 : Nat} {b0 b1 : Value} {X Y : Option Addr} {n c m d : Nat} {b : Bool} {K : Value → World → Prop} (ew : Ext w u) (hb1 : Blk u g1 [b0, b1]) (hg1 : w.heap.size ≤ g1)
    (hK : ∀ u', Ext w u' → Fr (fun k => k = g1) u u' → K (.tuple #[.agg #[.slice X n c, .slice Y m d], .bool b]) u') :
    stOK ⟨g1, 0, none⟩ 0 [.slice X n c, .slice Y m d] u ∧ ∀ w', w' = setAll ⟨g1, 0, none⟩ 0 [.slice X n c, .slice Y m d] u → ∃ x x1 x2, w'.cell? ((⟨g1, 0, none⟩ : Addr).add 0) = some (.slice x x1 x2) ∧ ∃ y y1 y2, w'.cell? ((⟨g1, 0, none⟩ : Addr).add 1) = some (.slice y y1 y2) ∧ K (.tuple #[.agg #[.slice x x1 x2, .slice y y1 y2], .bool b]) w' := by
  refine ⟨hb1.stOK (o := 0) [_, _] 0 (by simp), fun w' hw' => ?_⟩
  have b' : Blk w' g1 [.slice X n c, .slice Y m d] := by rw [hw']; exact Blk.setAll (o := 0) [.slice X n c, .slice Y m d] 0 hb1
  have f' : Fr (fun k => k = g1) u w' := by rw [hw']; exact Fr.setAll _ _ _
  exact ⟨_, _, _, b'.cell rfl, _, _, _, b'.cell rfl, hK w' (ew.trans f' (fun _ _ h => h) (fun k hk e => by omega)) f'⟩
theorem Entry_no {A : Option Addr} {c : Nat} {F : List (Int × Es)} (last i k : Int) (hi : i < 0) :
    CallsV Try.prog 70 #[trV A c F last, .int .i64 i, .int .i64 k] w fun v w' => EnR Ω w' none v ∧ Ext w w' := by
  refine cardindexref04_Trees_Entry.calls okay ?_
  unfold cardindexref04_Trees_Entry.W
  intro g w1 f1 g1 w2 f2
  have e2 : Ext w w2 := f1.ext.trans' f2.ext
  have hg1w : w.heap.size ≤ g1 := Nat.le_trans f1.ext.size f2.ge
  refine brd (fun _ => ?_) fun h => absurd hi h
  exact finE (K := fun v w' => EnR Ω w' none v ∧ Ext w w') e2 f2.blk hg1w fun u' e' _ => ⟨rfl, e'⟩
theorem Entry_specR {A : Option Addr} {c : Nat} {F : List (Int × Es)} (h : TrR Ω w A c F) {i : Nat} {r : Int} {es : Es} (hi : F[i]? = some (r, es)) (last k : Int) :
    CallsV Try.prog 70 #[trV A c F last, iv i, .int .i64 k] w fun v w' => EnR Ω w' (if k < 0 then none else es[k.toNat]?) v ∧ Ext w w' := by
  refine cardindexref04_Trees_Entry.calls okay ?_
  unfold cardindexref04_Trees_Entry.W
  intro g w1 f1 g1 w2 f2
  have e2 : Ext w w2 := f1.ext.trans' f2.ext
  have hg1w : w.heap.size ≤ g1 := Nat.le_trans f1.ext.size f2.ge
  have bg : Blk w2 g [.slice A F.length c, .int .i64 last] := f1.blk.ext f2.ext
  obtain ⟨ad, E, ce, hA, c0, c1, hce, hE⟩ := trCell h.1 hi
  have hil := (List.getElem?_eq_some_iff.1 hi).1
  refine brd (fun h => by omega) fun _ => brd (fun hk => ?_) fun hk => ?_
  · rw [if_pos hk]
    exact finE (K := fun v w' => EnR Ω w' none v ∧ Ext w w') e2 f2.blk hg1w fun u' e' _ => ⟨rfl, e'⟩
  · rw [if_neg hk]
    refine ⟨_, _, _, bg.cell rfl, ad, hA, ⟨by omega, by omega⟩, _, _, _, by rw [Int.toNat_natCast]; exact Ext.cell e2 c1, brd (fun hge => ?_) (fun hlt => ?_)⟩
    · rw [List.getElem?_eq_none (by omega)]
      exact finE (K := fun v w' => EnR Ω w' none v ∧ Ext w w') e2 f2.blk hg1w fun u' e' _ => ⟨rfl, e'⟩
    · obtain ⟨p, hp⟩ : ∃ p, es[k.toNat]? = some p := ⟨_, List.getElem?_eq_getElem (by omega)⟩
      obtain ⟨k', v'⟩ := p
      obtain ⟨ed, A1, cc1, A2, cc2, hEd, d0, d1, l1, l2, i1, i2⟩ := enCell hE hp
      refine ⟨_, _, _, bg.cell rfl, ad, hA, ⟨by omega, by omega⟩, _, _, _, by rw [Int.toNat_natCast]; exact Ext.cell e2 c1, ed, hEd, ⟨by omega, by omega⟩, _, _, _, Ext.cell e2 d0, _, _, _, Ext.cell e2 d1, ?_⟩
      rw [hp]
      exact finE (K := fun v w' => EnR Ω w' (some (k', v')) v ∧ Ext w w') e2 f2.blk hg1w fun u' e' _ => ⟨⟨A1, cc1, A2, cc2, rfl, l1, l2, i1.ext KB_pos e', i2.ext KB_pos e'⟩, e'⟩
theorem After_no {A : Option Addr} {c : Nat} {F : List (Int × Es)} (last i : Int) (hi : i < 0) (KA : Option Addr) (kn kc : Nat) (is : Bool) :
    CallsV Try.prog 67 #[trV A c F last, .int .i64 i, .slice KA kn kc, .bool is] w fun v w' => EnR Ω w' none v ∧ Ext w w' := by
  refine cardindexref04_Trees_After.calls okay ?_
  unfold cardindexref04_Trees_After.W
  intro g w1 f1 g1 w2 f2
  refine brd (fun _ => ?_) fun h => absurd hi h
  exact finE (K := fun v w' => EnR Ω w' none v ∧ Ext w w') (f1.ext.trans' f2.ext) f2.blk (Nat.le_trans f1.ext.size f2.ge) fun u' e' _ => ⟨rfl, e'⟩
theorem Before_no {A : Option Addr} {c : Nat} {F : List (Int × Es)} (last i : Int) (hi : i < 0) (KA : Option Addr) (kn kc : Nat) (is : Bool) :
    CallsV Try.prog 69 #[trV A c F last, .int .i64 i, .slice KA kn kc, .bool is] w fun v w' => EnR Ω w' none v ∧ Ext w w' := by
  refine cardindexref04_Trees_Before.calls okay ?_
  unfold cardindexref04_Trees_Before.W
  intro g w1 f1 g1 w2 f2
  refine brd (fun _ => ?_) fun h => absurd hi h
  exact finE (K := fun v w' => EnR Ω w' none v ∧ Ext w w') (f1.ext.trans' f2.ext) f2.blk (Nat.le_trans f1.ext.size f2.ge) fun u' e' _ => ⟨rfl, e'⟩
theorem After_specR {A : Option Addr} {c : Nat} {F : List (Int × Es)} (h : TrR Ω w A c F) {i : Nat} {r : Int} {es : Es} (hi : F[i]? = some (r, es)) (hu : UpE es) (hel : es.length ≤ 100000) (last : Int) {Ω2 : Nat → Prop} {KA : Option Addr} {key : Key} (hK : Imm KB Ω2 w KA key) (kc : Nat) (is : Bool) (hks : ∀ p ∈ es, p.1.length ≤ 1048576) :
    CallsV Try.prog 67 #[trV A c F last, iv i, .slice KA key.length kc, .bool is] w fun v w' => EnR Ω w' (aftE key is es) v ∧ Ext w w' := by
  refine cardindexref04_Trees_After.calls okay ?_
  unfold cardindexref04_Trees_After.W
  intro g w1 f1 g1 w2 f2
  have e2 : Ext w w2 := f1.ext.trans' f2.ext
  have hg1w : w.heap.size ≤ g1 := Nat.le_trans f1.ext.size f2.ge
  have bg : Blk w2 g [.slice A F.length c, .int .i64 last] := f1.blk.ext f2.ext
  obtain ⟨Ω1, hΩe⟩ : ∃ Ω1 : Nat → Prop, Ω1 = fun k => Ω k ∨ k = g1 := ⟨_, rfl⟩
  have stE : ∀ {u}, Ext w u → Step Ω w Ω1 u := fun e => ⟨e.size, fun k hk _ => e.block k hk fun h => h, fun k hk h => by
    rw [hΩe] at h
    rcases h with h | h
    · exact h
    · omega⟩
  have hple := pos_le (keysE es) key
  rw [keysE_length] at hple
  refine brd (fun h => by omega) fun _ => ⟨_, _, _, bg.cell rfl, _, bg.cell rfl, (Place_spec (h.1.ext KTr_pos e2) hi (by omega) last (hK.ext KB_pos e2) kc hks).mono ?_⟩
  rintro _ w3 ⟨rfl, e3⟩
  refine ⟨_, _, rfl, fun x u => x = ((pos (keysE es) key + (if has (keysE es) key && !is then 1 else 0) : Nat) : Int) ∧ u = w3, ?_, ?_⟩
  · rintro _ _ ⟨rfl, rfl⟩
    have bg3 := bg.ext e3
    have e23 := e2.trans' e3
    refine ⟨_, _, _, bg3.cell rfl, _, bg3.cell rfl, (Entry_specR (h.keep (stE e23)) hi last _).mono ?_⟩
    rintro _ w4 ⟨hv, e4⟩
    rw [if_neg (by omega), Int.toNat_natCast, ← aft_pos hu] at hv
    obtain ⟨A1, n1, c1, A2, n2, c2, b, rfl⟩ := hv.form
    refine ⟨_, _, _, _, _, _, _, rfl, ?_⟩
    have e24 := e23.trans' e4
    refine finE (K := fun v w' => EnR Ω w' (aftE key is es) v ∧ Ext w w') e24 ((f2.blk.ext e3).ext e4) hg1w fun u' e' f' => ⟨?_, e'⟩
    refine hv.keep ⟨f'.size, fun k hk hn => f'.block k hk fun he => hn ?_, fun k hk h => ?_⟩
    · rw [hΩe]; exact .inr he
    · rw [hΩe]; exact .inl h
  · cases hb : has (keysE es) key with
    | true =>
      cases is with
      | true => exact ⟨rfl, rfl⟩
      | false => exact ⟨by rw [wi _ (by omega) (by omega)]; rfl, rfl⟩
    | false => exact ⟨rfl, rfl⟩
theorem Before_specR {A : Option Addr} {c : Nat} {F : List (Int × Es)} (h : TrR Ω w A c F) {i : Nat} {r : Int} {es : Es} (hi : F[i]? = some (r, es)) (hu : UpE es) (hel : es.length ≤ 100000) (last : Int) {Ω2 : Nat → Prop} {KA : Option Addr} {key : Key} (hK : Imm KB Ω2 w KA key) (kc : Nat) (is : Bool) (hks : ∀ p ∈ es, p.1.length ≤ 1048576) :
    CallsV Try.prog 69 #[trV A c F last, iv i, .slice KA key.length kc, .bool is] w fun v w' => EnR Ω w' (befE key is es) v ∧ Ext w w' := by
  refine cardindexref04_Trees_Before.calls okay ?_
  unfold cardindexref04_Trees_Before.W
  intro g w1 f1 g1 w2 f2
  have e2 : Ext w w2 := f1.ext.trans' f2.ext
  have hg1w : w.heap.size ≤ g1 := Nat.le_trans f1.ext.size f2.ge
  have bg : Blk w2 g [.slice A F.length c, .int .i64 last] := f1.blk.ext f2.ext
  obtain ⟨Ω1, hΩe⟩ : ∃ Ω1 : Nat → Prop, Ω1 = fun k => Ω k ∨ k = g1 := ⟨_, rfl⟩
  have stE : ∀ {u}, Ext w u → Step Ω w Ω1 u := fun e => ⟨e.size, fun k hk _ => e.block k hk fun h => h, fun k hk h => by
    rw [hΩe] at h
    rcases h with h | h
    · exact h
    · omega⟩
  have hple := pos_le (keysE es) key
  rw [keysE_length] at hple
  refine brd (fun h => by omega) fun _ => ⟨_, _, _, bg.cell rfl, _, bg.cell rfl, (Place_spec (h.1.ext KTr_pos e2) hi (by omega) last (hK.ext KB_pos e2) kc hks).mono ?_⟩
  rintro _ w3 ⟨rfl, e3⟩
  refine ⟨_, _, rfl, fun x u => x = (if has (keysE es) key && is then ((pos (keysE es) key : Nat) : Int) else ((pos (keysE es) key : Nat) : Int) - 1) ∧ u = w3, ?_, ?_⟩
  · rintro _ _ ⟨rfl, rfl⟩
    have bg3 := bg.ext e3
    have e23 := e2.trans' e3
    refine ⟨_, _, _, bg3.cell rfl, _, bg3.cell rfl, (Entry_specR (h.keep (stE e23)) hi last _).mono ?_⟩
    rintro _ w4 ⟨hv, e4⟩
    have he : (if (if (has (keysE es) key && is) = true then ((pos (keysE es) key : Nat) : Int) else ((pos (keysE es) key : Nat) : Int) - 1) < 0 then none else es[(if (has (keysE es) key && is) = true then ((pos (keysE es) key : Nat) : Int) else ((pos (keysE es) key : Nat) : Int) - 1).toNat]?) = befE key is es := by
      rw [bef_pos hu]
      cases hb : has (keysE es) key && is with
      | true =>
        simp only [if_true]
        rw [if_neg (by omega), Int.toNat_natCast]
      | false =>
        simp only [Bool.false_eq_true, if_false]
        by_cases h0 : pos (keysE es) key = 0
        · rw [if_pos h0, if_pos (by omega)]
        · rw [if_neg h0, if_neg (by omega)]
          congr 1; omega
    rw [he] at hv
    obtain ⟨A1, n1, c1, A2, n2, c2, b, rfl⟩ := hv.form
    refine ⟨_, _, _, _, _, _, _, rfl, ?_⟩
    have e24 := e23.trans' e4
    refine finE (K := fun v w' => EnR Ω w' (befE key is es) v ∧ Ext w w') e24 ((f2.blk.ext e3).ext e4) hg1w fun u' e' f' => ⟨?_, e'⟩
    refine hv.keep ⟨f'.size, fun k hk hn => f'.block k hk fun he => hn ?_, fun k hk h => ?_⟩
    · rw [hΩe]; exact .inr he
    · rw [hΩe]; exact .inl h
  · cases hb : has (keysE es) key with
    | true =>
      cases is with
      | true => exact ⟨rfl, rfl⟩
      | false => exact ⟨by rw [wi _ (by omega) (by omega)]; rfl, rfl⟩
    | false => exact ⟨by rw [wi _ (by omega) (by omega)]; rfl, rfl⟩
end
end Go.Proofs.Ytadlhdiejmilmaa
/- Layer 4: an arena's trees and the document's, side by side. -/
set_option linter.unusedVariables false
set_option linter.unusedSimpArgs false
namespace Go.Proofs.Ytadlhdiejmilmaa
open Go Go.Sx T4
/-! ## forests -/
def fo (d : Tr) : Int × Es := (d.r, d.es)
abbrev foD (Ds : List Tr) : List (Int × Es) := Ds.map fo
def gF : List (Int × Es) → Int → Option Es
  | [], _ => none
  | (x, u) :: l, a => if a = x then some u else gF l a
theorem gF_none {F : List (Int × Es)} {r : Int} (h : ∀ p ∈ F, p.1 ≠ r) : gF F r = none := by
  induction F with
  | nil => rfl
  | cons p F ih =>
    obtain ⟨x, u⟩ := p
    have hx : x ≠ r := h (x, u) (by simp)
    show (if r = x then some u else gF F r) = none
    rw [if_neg fun e => hx e.symm]
    exact ih fun p hp => h p (by simp [hp])
theorem gF_at : ∀ {F : List (Int × Es)} {r : Int} {j : Nat} {es : Es}, F[j]? = some (r, es) → (∀ k p, F[k]? = some p → k < j → p.1 ≠ r) → gF F r = some es
  | [], _, _, _, h, _ => by simp at h
  | (x, u) :: F, r, 0, es, h, _ => by
    simp at h
    obtain ⟨rfl, rfl⟩ := h
    show (if x = x then some u else _) = _
    rw [if_pos rfl]
  | (x, u) :: F, r, j + 1, es, h, hn => by
    have hx : x ≠ r := hn 0 (x, u) rfl (by omega)
    show (if r = x then some u else gF F r) = _
    rw [if_neg fun e => hx e.symm]
    exact gF_at (by simpa using h) fun k p hk hlt => hn (k + 1) p (by simpa using hk) (by omega)
theorem Fnd.cases {F : List (Int × Es)} {r i : Int} (h : Fnd F r i) : (i = -1 ∧ gF F r = none ∧ ∀ p ∈ F, p.1 ≠ r) ∨ ∃ (j : Nat) (es : Es), i = (j : Int) ∧ F[j]? = some (r, es) ∧ gF F r = some es := by
  rcases h with ⟨h1, h2⟩ | ⟨j, es, h1, h2, h3⟩
  · exact .inl ⟨h1, gF_none h2, h2⟩
  · exact .inr ⟨j, es, h1, h2, gF_at h2 h3⟩
theorem split_at {Ds : List Tr} {j : Nat} {r : Int} {es : Es} (h : (foD Ds)[j]? = some (r, es)) : ∃ D1 d D2, Ds = D1 ++ d :: D2 ∧ D1.length = j ∧ d.r = r ∧ d.es = es := by
  rw [List.getElem?_map] at h
  cases hd : Ds[j]? with
  | none => rw [hd] at h; cases h
  | some d =>
    rw [hd] at h
    have h : fo d = (r, es) := Option.some.inj h
    have hj := (List.getElem?_eq_some_iff.1 hd).1
    have hdj := (List.getElem?_eq_some_iff.1 hd).2
    refine ⟨Ds.take j, d, Ds.drop (j + 1), ?_, by rw [List.length_take]; omega, congrArg Prod.fst h, congrArg Prod.snd h⟩
    conv => lhs; rw [← List.take_append_drop j Ds, List.drop_eq_getElem_cons hj]
    rw [hdj]
theorem fo_set {D1 D2 : List Tr} {d d' : Tr} : (foD (D1 ++ d :: D2)).set D1.length (fo d') = foD (D1 ++ d' :: D2) := by
  unfold foD
  rw [List.map_append, List.map_cons, List.map_append, List.map_cons, List.set_append_right _ _ (by simp)]
  simp
/-- the tree of a number -/
theorem find_split {Ds : List Tr} {r : Int} : (gF (foD Ds) r = none ∧ ∀ d ∈ Ds, d.r ≠ r) ∨ ∃ D1 d D2, Ds = D1 ++ d :: D2 ∧ d.r = r ∧ gF (foD Ds) r = some d.es := by
  induction Ds with
  | nil => exact .inl ⟨rfl, fun d h => by cases h⟩
  | cons x Ds ih =>
    by_cases hx : r = x.r
    · exact .inr ⟨[], x, Ds, rfl, hx.symm, by show (if r = x.r then some x.es else _) = _; rw [if_pos hx]⟩
    · have e : gF (foD (x :: Ds)) r = gF (foD Ds) r := by show (if r = x.r then some x.es else _) = _; rw [if_neg hx]
      rcases ih with ⟨h1, h2⟩ | ⟨D1, d, D2, h1, h2, h3⟩
      · refine .inl ⟨by rw [e]; exact h1, fun d hd => ?_⟩
        rcases List.mem_cons.1 hd with rfl | hd
        · exact fun h => hx h.symm
        · exact h2 d hd
      · exact .inr ⟨x :: D1, d, D2, by rw [h1]; rfl, h2, by rw [e]; exact h3⟩
section
variable {R M : Nat → Prop} {w : World} {g : Nat} {A : Ar} {Ds : List Tr}
theorem uAfter (h : Ar1 R M w g A) (hI : Inv A Ds) (root : Int) {key : Key} {Ω : Nat → Prop} {KA : Option Addr} (hKA : Imm KB Ω w KA key) (kc : Nat) (at_ : Bool) :
    CallsV Try.prog 24 #[.pointer (some ⟨g, 0, none⟩), .int .i64 root, .slice KA key.length kc, .bool at_] w fun r w' => Told w ((gF (foD Ds) root).bind (aftE key at_)) r w' ∧ Ext w w' := by
  rcases find_split (Ds := Ds) (r := root) with ⟨h1, h2⟩ | ⟨D1, d, D2, rfl, rfl, h3⟩
  · rw [h1]
    refine (After_none h (by have := hI.f1; omega) (hI.miss h2) KA key.length kc at_).mono ?_
    rintro _ w' ⟨rfl, rfl⟩
    exact ⟨rfl, .refl _ _⟩
  · rw [h3]
    exact oAfter h hI.one.1 hKA kc at_
theorem uBefore (h : Ar1 R M w g A) (hI : Inv A Ds) (root : Int) {key : Key} {Ω : Nat → Prop} {KA : Option Addr} (hKA : Imm KB Ω w KA key) (kc : Nat) (at_ : Bool) :
    CallsV Try.prog 33 #[.pointer (some ⟨g, 0, none⟩), .int .i64 root, .slice KA key.length kc, .bool at_] w fun r w' => Told w ((gF (foD Ds) root).bind (befE key at_)) r w' ∧ Ext w w' := by
  rcases find_split (Ds := Ds) (r := root) with ⟨h1, h2⟩ | ⟨D1, d, D2, rfl, rfl, h3⟩
  · rw [h1]
    refine (Before_none h (by have := hI.f1; omega) (hI.miss h2) KA key.length kc at_).mono ?_
    rintro _ w' ⟨rfl, rfl⟩
    exact ⟨rfl, .refl _ _⟩
  · rw [h3]
    exact oBefore h hI.one.1 hKA kc at_
theorem uLast (h : Ar1 R M w g A) (hI : Inv A Ds) (root : Int) :
    CallsV Try.prog 25 #[.pointer (some ⟨g, 0, none⟩), .int .i64 root] w fun r w' => Told w ((gF (foD Ds) root).bind fun es => es.getLast?) r w' ∧ Ext w w' := by
  rcases find_split (Ds := Ds) (r := root) with ⟨h1, h2⟩ | ⟨D1, d, D2, rfl, rfl, h3⟩
  · rw [h1]
    refine (Last_none h (by have := hI.f1; omega) (hI.miss h2)).mono ?_
    rintro _ w' ⟨rfl, rfl⟩
    exact ⟨rfl, .refl _ _⟩
  · rw [h3]
    exact oLast h hI.one.1
def lenO : Option Es → Nat
  | none => 0
  | some es => es.length
theorem uLen (h : Ar1 R M w g A) (hI : Inv A Ds) (root : Int) :
    CallsV Try.prog 28 #[.pointer (some ⟨g, 0, none⟩), .int .i64 root] w fun r w' => r = iv (lenO (gF (foD Ds) root)) ∧ Ext w w' := by
  rcases find_split (Ds := Ds) (r := root) with ⟨h1, h2⟩ | ⟨D1, d, D2, rfl, rfl, h3⟩
  · rw [h1]
    exact Len_none h (by have := hI.f1; omega) (hI.miss h2)
  · rw [h3]
    exact oLen h hI.one.1
theorem uDeep (h : Ar1 R M w g A) (hI : Inv A Ds) (root : Int) :
    CallsV Try.prog 16 #[.pointer (some ⟨g, 0, none⟩), .int .i64 root] w fun r w' => r = iv (dp A root) ∧ Ext w w' := by
  rcases find_split (Ds := Ds) (r := root) with ⟨h1, h2⟩ | ⟨D1, d, D2, rfl, rfl, h3⟩
  · have e : dp A root = 0 := by unfold dp; rw [hI.miss h2]
    rw [e]
    refine (Deep_none h (by have := hI.f1; omega) (hI.miss h2)).mono ?_
    rintro _ w' ⟨rfl, rfl⟩
    exact ⟨rfl, .refl _ _⟩
  · exact oDeep h hI.one.1
theorem dp_pos (hI : Inv A Ds) (root : Int) : (0 < dp A root ↔ (gF (foD Ds) root).isSome = true) ∧ dp A root ≤ A.nodes := by
  rcases find_split (Ds := Ds) (r := root) with ⟨h1, h2⟩ | ⟨D1, d, D2, rfl, rfl, h3⟩
  · have e : dp A root = 0 := by unfold dp; rw [hI.miss h2]
    rw [e, h1]; simp
  · have := hI.one.1.dpos
    rw [h3]; simp; omega
theorem uGet (h : Ar1 R M w g A) (hI : Inv A Ds) (root : Int) {key : Key} {Ω : Nat → Prop} {KA : Option Addr} (hKA : Imm KB Ω w KA key) (kc : Nat) :
    CallsV Try.prog 23 #[.pointer (some ⟨g, 0, none⟩), .int .i64 root, .slice KA key.length kc] w fun r w' => Ext w w' ∧ (match (gF (foD Ds) root).bind (getE key) with | none => r = .tuple #[.slice none 0 0, .bool false] | some v => ∃ B d, r = .tuple #[.slice B v.length d, .bool true] ∧ OwnB w' B d v ∧ New w B ∧ v.length ≤ 1048576) := by
  rcases find_split (Ds := Ds) (r := root) with ⟨h1, h2⟩ | ⟨D1, d, D2, rfl, rfl, h3⟩
  · rw [h1]
    refine (Get_none h (by have := hI.f1; omega) (hI.miss h2) KA key.length kc).mono ?_
    rintro _ w' ⟨rfl, rfl⟩
    exact ⟨.refl _ _, rfl⟩
  · rw [h3]
    exact oGet h hI.one.1 hKA kc
theorem Inv.upD (hI : Inv A Ds) {root : Int} {es : Es} (h : gF (foD Ds) root = some es) : UpE es := by
  rcases find_split (Ds := Ds) (r := root) with ⟨h1, h2⟩ | ⟨D1, d, D2, rfl, rfl, h3⟩
  · rw [h1] at h; cases h
  · rw [h3] at h; cases h; exact hI.one.1.upE
end
/-! ## the document's -/
/-- small enough -/
structure Sml (F : List (Int × Es)) (n : Nat) : Prop where
  len : F.length ≤ n
  es : ∀ p ∈ F, p.2.length ≤ n
  keys : ∀ p ∈ F, ∀ q ∈ p.2, q.1.length ≤ 1048576
theorem Sml.mono {F : List (Int × Es)} {n m : Nat} (h : Sml F n) (hm : n ≤ m) : Sml F m := ⟨Nat.le_trans h.len hm, fun p hp => Nat.le_trans (h.es p hp) hm, h.keys⟩
section
variable {w : World} {Ω : Nat → Prop}
theorem rAfter {A : Option Addr} {c : Nat} {F : List (Int × Es)} (h : TrR Ω w A c F) {n : Nat} (hs : Sml F n) (hn : n ≤ 100000) {root i : Int} (hf : Fnd F root i) (hu : ∀ es, gF F root = some es → UpE es) (last : Int) {Ω1 : Nat → Prop} {KA : Option Addr} {key : Key} (hK : Imm KB Ω1 w KA key) (kc : Nat) (is : Bool) :
    CallsV Try.prog 67 #[trV A c F last, .int .i64 i, .slice KA key.length kc, .bool is] w fun v w' => EnR Ω w' ((gF F root).bind (aftE key is)) v ∧ Ext w w' := by
  rcases hf.cases with ⟨rfl, h1, _⟩ | ⟨j, es, rfl, h1, h2⟩
  · rw [h1]; exact After_no last _ (by decide) KA key.length kc is
  · rw [h2]
    have hm := List.mem_of_getElem? h1
    exact After_specR h h1 (hu es h2) (by have h9 : es.length ≤ n := hs.es _ hm; omega) last hK kc is (hs.keys _ hm)
theorem rBefore {A : Option Addr} {c : Nat} {F : List (Int × Es)} (h : TrR Ω w A c F) {n : Nat} (hs : Sml F n) (hn : n ≤ 100000) {root i : Int} (hf : Fnd F root i) (hu : ∀ es, gF F root = some es → UpE es) (last : Int) {Ω1 : Nat → Prop} {KA : Option Addr} {key : Key} (hK : Imm KB Ω1 w KA key) (kc : Nat) (is : Bool) :
    CallsV Try.prog 69 #[trV A c F last, .int .i64 i, .slice KA key.length kc, .bool is] w fun v w' => EnR Ω w' ((gF F root).bind (befE key is)) v ∧ Ext w w' := by
  rcases hf.cases with ⟨rfl, h1, _⟩ | ⟨j, es, rfl, h1, h2⟩
  · rw [h1]; exact Before_no last _ (by decide) KA key.length kc is
  · rw [h2]
    have hm := List.mem_of_getElem? h1
    exact Before_specR h h1 (hu es h2) (by have h9 : es.length ≤ n := hs.es _ hm; omega) last hK kc is (hs.keys _ hm)
theorem rEntry {A : Option Addr} {c : Nat} {F : List (Int × Es)} (h : TrR Ω w A c F) {root i : Int} (hf : Fnd F root i) (last k : Int) :
    CallsV Try.prog 70 #[trV A c F last, .int .i64 i, .int .i64 k] w fun v w' => EnR Ω w' ((gF F root).bind fun es => if k < 0 then none else es[k.toNat]?) v ∧ Ext w w' := by
  rcases hf.cases with ⟨rfl, h1, _⟩ | ⟨j, es, rfl, h1, h2⟩
  · rw [h1]; exact Entry_no last _ k (by decide)
  · rw [h2]
    exact Entry_specR h h1 last k
/-- what a tree told, to be read -/
def TI (Ω : Nat → Prop) (w : World) (x : Option (Key × Key)) (A : Option Addr) (n : Nat) (B : Option Addr) (m : Nat) (ok : Bool) : Prop := match x with
  | none => A = none ∧ n = 0 ∧ B = none ∧ m = 0 ∧ ok = false
  | some (k, v) => n = k.length ∧ m = v.length ∧ ok = true ∧ Imm KB Ω w A k ∧ Imm KB Ω w B v
theorem TI.keep {Ω' : Nat → Prop} {w' : World} {x : Option (Key × Key)} {A : Option Addr} {n : Nat} {B : Option Addr} {m : Nat} {ok : Bool} (h : TI Ω w x A n B m ok) (st : Step Ω w Ω' w') : TI Ω' w' x A n B m ok := by
  cases x with
  | none => exact h
  | some p => obtain ⟨h1, h2, h3, h4, h5⟩ := h; exact ⟨h1, h2, h3, h4.keep KB_pos st, h5.keep KB_pos st⟩
theorem TI.ext {w' : World} {x : Option (Key × Key)} {A : Option Addr} {n : Nat} {B : Option Addr} {m : Nat} {ok : Bool} (h : TI Ω w x A n B m ok) (e : Ext w w') : TI Ω w' x A n B m ok := h.keep (e.step Ω)
theorem Told.ti {w0 : World} {x : Option (Key × Key)} {r : Value} (h : Told w0 x r w) (hΩ : ∀ k, Ω k → k < w0.heap.size) : ∃ A n c B m d ok, r = .tuple #[.slice A n c, .slice B m d, .bool ok] ∧ TI Ω w x A n B m ok := by
  cases x with
  | none => exact ⟨none, 0, 0, none, 0, 0, false, h, rfl, rfl, rfl, rfl, rfl⟩
  | some p =>
    obtain ⟨k, v⟩ := p
    obtain ⟨A, c, B, d, rfl, h2, h3, n1, n2, _⟩ := h
    exact ⟨A, _, c, B, _, d, true, rfl, rfl, rfl, rfl, h2.imm fun b hb hω => by have := n1 b hb; have := hΩ b hω; omega, h3.imm fun b hb hω => by have := n2 b hb; have := hΩ b hω; omega⟩
end
end Go.Proofs.Ytadlhdiejmilmaa
/- The preconditions of Go functions, printed by a program of this workplace (nests.py); each is proved to be the engine's own. -/
set_option linter.unusedVariables false
set_option maxRecDepth 100000
namespace Go.Proofs.Ytadlhdiejmilmaa
open Go Go.Sx
noncomputable def cardindexlaw04_small.W : Int → Int → Int → Option Addr → Nat → Nat → Option Addr → Nat → Nat → Bool → World → (Value → World → Prop) → Prop := fun (o0 o1 o2 : Int) (o3_A : Option
 Addr) (o3_n o3_c : Nat) (o4_A : Option Addr) (o4_n o4_c : Nat) (o5 : Bool) (w : World) (K : Value → World → Prop) => ∀ (g : Nat) (w' : World), Fresh w g w' [Value.int
 IntKind.i64 o0, Value.int IntKind.i64 o1, Value.int IntKind.i64 o2, Value.slice o3_A o3_n o3_c, Value.slice o4_A o4_n o4_c, Value.bool o5] (70 : Nat) → ∃ (x : Option Addr), ∃
 (x_1 : Nat), ∃ (x_2 : Nat), World.cell? w' (Addr.add (Addr.mk g (0 : Nat) Option.none) (3 : Nat)) = Option.some (Value.slice x x_1 x_2) ∧ bif Decidable.decide ((↑x_1 : Int) ≤ (100 : Int))
 then ∃ (x : Option Addr), ∃ (x_3 : Nat), ∃ (x_4 : Nat), World.cell? w' (Addr.add (Addr.mk g (0 : Nat) Option.none) (4 : Nat)) = Option.some (Value.slice x x_3 x_4) ∧ K (Value.bool
 (Decidable.decide ((↑x_3 : Int) ≤ (100 : Int)))) w' else K (Value.bool Bool.false) w'
theorem cardindexlaw04_small.eq (o0 : Int) (o1 : Int) (o2 : Int) (o3_A : Option Addr) (o3_n : Nat) (o3_c : Nat) (o4_A : Option Addr) (o4_n : Nat) (o4_c : Nat) (o5 : Bool) (w : World) (K : Value → World → Prop) : cardindexlaw04_small.W o0 o1 o2 o3_A o3_n o3_c o4_A o4_n o4_c o5 w K = fnW Try.prog Try.f36 (.named .auto) [.agg #[.int .i64 o0, .int .i64 o1, .int .i64 o2, .slice o3_A o3_n o3_c, .slice o4_A o4_n o4_c, .bool o5]] w K := by kernel_rfl
theorem cardindexlaw04_small.calls (ok : Okay Try.prog) {o0 : Int} {o1 : Int} {o2 : Int} {o3_A : Option Addr} {o3_n : Nat} {o3_c : Nat} {o4_A : Option Addr} {o4_n : Nat} {o4_c : Nat} {o5 : Bool} {w : World} {K : Value → World → Prop} (h : cardindexlaw04_small.W o0 o1 o2 o3_A o3_n o3_c o4_A o4_n o4_c o5 w K) : CallsV Try.prog 36 #[.agg #[.int .i64 o0, .int .i64 o1, .int .i64 o2, .slice o3_A o3_n o3_c, .slice o4_A o4_n o4_c, .bool o5]] w K :=
  fnW_calls ok Try.func36 (an := (.named .auto)) (args := [.agg #[.int .i64 o0, .int .i64 o1, .int .i64 o2, .slice o3_A o3_n o3_c, .slice o4_A o4_n o4_c, .bool o5]]) (by rw [← cardindexlaw04_small.eq]; exact h)
noncomputable def cardindexlaw04_is.W : Option Addr → Nat → Nat → Option Addr → Nat → Nat → Bool → Option Addr → Nat → Nat → Option Addr → Nat → Nat → Bool → World → (Value → World → Prop) → Prop :=
 fun (key_A : Option Addr) (key_n key_c : Nat) (val_A : Option Addr) (val_n val_c : Nat) (okx : Bool) (want0_A : Option Addr) (want0_n want0_c : Nat) (want1_A : Option Addr) (want1_n want1_c
 : Nat) (there : Bool) (w : World) (K : Value → World → Prop) => ∀ (g : Nat) (w' : World), Fresh w g w' [Value.slice want0_A want0_n want0_c, Value.slice want1_A want1_n want1_c]
 (119 : Nat) → bif Decidable.decide (okx = there) then ∃ (x : Option Addr), ∃ (x_1 : Nat), ∃ (x_2 : Nat), World.cell? w' (Addr.add (Addr.mk g (0 : Nat) Option.none) (0 : Nat)) = Option.some
 (Value.slice x x_1 x_2) ∧ CallsV Try.prog (26 : Nat) #[Value.slice key_A key_n key_c, Value.slice x x_1 x_2] w' fun (v : Value) (w' : World) => ∃ (x : Bool), v =
 Value.bool x ∧ bif x then ∃ (x : Option Addr), ∃ (x_3 : Nat), ∃ (x_4 : Nat), World.cell? w' (Addr.add (Addr.mk g (0 : Nat) Option.none) (1 : Nat)) = Option.some (Value.slice x x_3
 x_4) ∧ CallsV Try.prog (26 : Nat) #[Value.slice val_A val_n val_c, Value.slice x x_3 x_4] w' fun (v : Value) (w' : World) => ∃ (x : Bool), v = Value.bool x ∧ K
 (Value.bool x) w' else K (Value.bool Bool.false) w' else K (Value.bool Bool.false) w'
theorem cardindexlaw04_is.eq (key_A : Option Addr) (key_n : Nat) (key_c : Nat) (val_A : Option Addr) (val_n : Nat) (val_c : Nat) (okx : Bool) (want0_A : Option Addr) (want0_n : Nat) (want0_c : Nat) (want1_A : Option Addr) (want1_n : Nat) (want1_c : Nat) (there : Bool) (w : World) (K : Value → World → Prop) : cardindexlaw04_is.W key_A key_n key_c val_A val_n val_c okx want0_A want0_n want0_c want1_A want1_n want1_c there w K = fnW Try.prog Try.f68 (.named .auto) [.slice key_A key_n key_c, .slice val_A val_n val_c, .bool okx, .agg #[.slice want0_A want0_n want0_c, .slice want1_A want1_n want1_c], .bool there] w K := by kernel_rfl
theorem cardindexlaw04_is.calls (ok : Okay Try.prog) {key_A : Option Addr} {key_n : Nat} {key_c : Nat} {val_A : Option Addr} {val_n : Nat} {val_c : Nat} {okx : Bool} {want0_A : Option Addr} {want0_n : Nat} {want0_c : Nat} {want1_A : Option Addr} {want1_n : Nat} {want1_c : Nat} {there : Bool} {w : World} {K : Value → World → Prop} (h : cardindexlaw04_is.W key_A key_n key_c val_A val_n val_c okx want0_A want0_n want0_c want1_A want1_n want1_c there w K) : CallsV Try.prog 68 #[.slice key_A key_n key_c, .slice val_A val_n val_c, .bool okx, .agg #[.slice want0_A want0_n want0_c, .slice want1_A want1_n want1_c], .bool there] w K :=
  fnW_calls ok Try.func68 (an := (.named .auto)) (args := [.slice key_A key_n key_c, .slice val_A val_n val_c, .bool okx, .agg #[.slice want0_A want0_n want0_c, .slice want1_A want1_n want1_c], .bool there]) (by rw [← cardindexlaw04_is.eq]; exact h)
noncomputable def cardindexlaw04_asked.W : Option Addr → Option Addr → Nat → Nat → Int → Int → Int → Int → Int → Option Addr → Nat → Nat → Option Addr → Nat → Nat → Bool → World → (Value → World →
 Prop) → Prop := fun (a wx0_A : Option Addr) (wx0_n wx0_c : Nat) (wx1 root o0 o1 o2 : Int) (o3_A : Option Addr) (o3_n o3_c : Nat) (o4_A : Option Addr) (o4_n o4_c : Nat) (o5 : Bool) (w :
 World) (K : Value → World → Prop) => ∀ (g : Nat) (w' : World), Fresh w g w' [Value.slice wx0_A wx0_n wx0_c, Value.int IntKind.i64 wx1] (67 : Nat) → ∀ (g_1 : Nat) (w'_1 :
 World), Fresh w' g_1 w'_1 [Value.int IntKind.i64 o0, Value.int IntKind.i64 o1, Value.int IntKind.i64 o2, Value.slice o3_A o3_n o3_c, Value.slice o4_A o4_n o4_c,
 Value.bool o5] (70 : Nat) → ∃ (x : Option Addr), ∃ (x_1 : Nat), ∃ (x_2 : Nat), World.cell? w'_1 (Addr.add (Addr.mk g (0 : Nat) Option.none) (0 : Nat)) = Option.some (Value.slice x x_1
 x_2) ∧ ∃ (x_3 : Int), World.cell? w'_1 (Addr.add (Addr.mk g (0 : Nat) Option.none) (1 : Nat)) = Option.some (Value.int IntKind.i64 x_3) ∧ CallsV Try.prog (35 : Nat)
 #[Value.agg #[Value.slice x x_1 x_2, Value.int IntKind.i64 x_3], Value.int IntKind.i64 root] w'_1 fun (v : Value) (w' : World) => ∃ (x : Int), v = Value.int IntKind.i64 x
 ∧ ∃ (x_4 : Option Addr), ∃ (x_5 : Nat), ∃ (x_6 : Nat), World.cell? w' (Addr.add (Addr.mk g_1 (0 : Nat) Option.none) (3 : Nat)) = Option.some (Value.slice x_4 x_5 x_6) ∧ ∃ (x_7 : Bool),
 World.cell? w' (Addr.add (Addr.mk g_1 (0 : Nat) Option.none) (5 : Nat)) = Option.some (Value.bool x_7) ∧ CallsV Try.prog (24 : Nat) #[Value.pointer a, Value.int
 IntKind.i64 root, Value.slice x_4 x_5 x_6, Value.bool x_7] w' fun (v : Value) (w' : World) => ∃ (x_8 : Option Addr), ∃ (x_9 : Nat), ∃ (x_10 : Nat), ∃ (x_11 : Option Addr), ∃ (x_12
 : Nat), ∃ (x_13 : Nat), ∃ (x_14 : Bool), v = Value.tuple #[Value.slice x_8 x_9 x_10, Value.slice x_11 x_12 x_13, Value.bool x_14] ∧ ∃ (x_15 : Option Addr), ∃ (x_16 : Nat), ∃ (x_17 :
 Nat), World.cell? w' (Addr.add (Addr.mk g (0 : Nat) Option.none) (0 : Nat)) = Option.some (Value.slice x_15 x_16 x_17) ∧ ∃ (x_18 : Int), World.cell? w' (Addr.add (Addr.mk g (0 :
 Nat) Option.none) (1 : Nat)) = Option.some (Value.int IntKind.i64 x_18) ∧ ∃ (x_19 : Option Addr), ∃ (x_20 : Nat), ∃ (x_21 : Nat), World.cell? w' (Addr.add (Addr.mk g_1 (0 : Nat)
 Option.none) (3 : Nat)) = Option.some (Value.slice x_19 x_20 x_21) ∧ ∃ (x_22 : Bool), World.cell? w' (Addr.add (Addr.mk g_1 (0 : Nat) Option.none) (5 : Nat)) = Option.some (Value.bool
 x_22) ∧ CallsV Try.prog (67 : Nat) #[Value.agg #[Value.slice x_15 x_16 x_17, Value.int IntKind.i64 x_18], Value.int IntKind.i64 x, Value.slice x_19 x_20 x_21,
 Value.bool x_22] w' fun (v : Value) (w' : World) => ∃ (x_23 : Option Addr), ∃ (x_24 : Nat), ∃ (x_25 : Nat), ∃ (x_26 : Option Addr), ∃ (x_27 : Nat), ∃ (x_28 : Nat), ∃ (x_29 : Bool), v =
 Value.tuple #[Value.agg #[Value.slice x_23 x_24 x_25, Value.slice x_26 x_27 x_28], Value.bool x_29] ∧ ∀ (g_2 : Nat) (w'_2 : World), Fresh w' g_2 w'_2 [Value.slice Option.none
 (0 : Nat) (0 : Nat), Value.slice Option.none (0 : Nat) (0 : Nat)] (119 : Nat) → stOK (Addr.mk g_2 (0 : Nat) Option.none) (0 : Nat) [Value.slice x_23 x_24 x_25, Value.slice x_26 x_27
 x_28] w'_2 ∧ ∀ (w' : World), w' = setAll (Addr.mk g_2 (0 : Nat) Option.none) (0 : Nat) [Value.slice x_23 x_24 x_25, Value.slice x_26 x_27 x_28] w'_2 → ∃ (x_30 : Option Addr), ∃
 (x_31 : Nat), ∃ (x_32 : Nat), World.cell? w' (Addr.add (Addr.mk g_2 (0 : Nat) Option.none) (0 : Nat)) = Option.some (Value.slice x_30 x_31 x_32) ∧ ∃ (x_33 : Option Addr), ∃ (x_34 : Nat),
 ∃ (x_35 : Nat), World.cell? w' (Addr.add (Addr.mk g_2 (0 : Nat) Option.none) (1 : Nat)) = Option.some (Value.slice x_33 x_34 x_35) ∧ CallsV Try.prog (68 : Nat)
 #[Value.slice x_8 x_9 x_10, Value.slice x_11 x_12 x_13, Value.bool x_14, Value.agg #[Value.slice x_30 x_31 x_32, Value.slice x_33 x_34 x_35], Value.bool x_29] w' fun (v : Value)
 (w' : World) => ∃ (x_36 : Bool), v = Value.bool x_36 ∧ bif !x_36 then K (Value.bool Bool.false) w' else ∃ (x_37 : Option Addr), ∃ (x_38 : Nat), ∃ (x_39 : Nat), World.cell? w'
 (Addr.add (Addr.mk g_1 (0 : Nat) Option.none) (3 : Nat)) = Option.some (Value.slice x_37 x_38 x_39) ∧ ∃ (x_40 : Bool), World.cell? w' (Addr.add (Addr.mk g_1 (0 : Nat) Option.none) (5
 : Nat)) = Option.some (Value.bool x_40) ∧ CallsV Try.prog (33 : Nat) #[Value.pointer a, Value.int IntKind.i64 root, Value.slice x_37 x_38 x_39, Value.bool x_40] w' fun
 (v : Value) (w' : World) => ∃ (x_41 : Option Addr), ∃ (x_42 : Nat), ∃ (x_43 : Nat), ∃ (x_44 : Option Addr), ∃ (x_45 : Nat), ∃ (x_46 : Nat), ∃ (x_47 : Bool), v = Value.tuple
 #[Value.slice x_41 x_42 x_43, Value.slice x_44 x_45 x_46, Value.bool x_47] ∧ ∃ (x_48 : Option Addr), ∃ (x_49 : Nat), ∃ (x_50 : Nat), World.cell? w' (Addr.add (Addr.mk g (0 : Nat)
 Option.none) (0 : Nat)) = Option.some (Value.slice x_48 x_49 x_50) ∧ ∃ (x_51 : Int), World.cell? w' (Addr.add (Addr.mk g (0 : Nat) Option.none) (1 : Nat)) = Option.some (Value.int
 IntKind.i64 x_51) ∧ ∃ (x_52 : Option Addr), ∃ (x_53 : Nat), ∃ (x_54 : Nat), World.cell? w' (Addr.add (Addr.mk g_1 (0 : Nat) Option.none) (3 : Nat)) = Option.some (Value.slice x_52
 x_53 x_54) ∧ ∃ (x_55 : Bool), World.cell? w' (Addr.add (Addr.mk g_1 (0 : Nat) Option.none) (5 : Nat)) = Option.some (Value.bool x_55) ∧ CallsV Try.prog (69 : Nat)
 #[Value.agg #[Value.slice x_48 x_49 x_50, Value.int IntKind.i64 x_51], Value.int IntKind.i64 x, Value.slice x_52 x_53 x_54, Value.bool x_55] w' fun (v : Value) (w' :
 World) => ∃ (x_56 : Option Addr), ∃ (x_57 : Nat), ∃ (x_58 : Nat), ∃ (x_59 : Option Addr), ∃ (x_60 : Nat), ∃ (x_61 : Nat), ∃ (x_62 : Bool), v = Value.tuple #[Value.agg #[Value.slice
 x_56 x_57 x_58, Value.slice x_59 x_60 x_61], Value.bool x_62] ∧ stOK (Addr.mk g_2 (0 : Nat) Option.none) (0 : Nat) [Value.slice x_56 x_57 x_58, Value.slice x_59 x_60 x_61] w' ∧ ∀
 (w'_3 : World), w'_3 = setAll (Addr.mk g_2 (0 : Nat) Option.none) (0 : Nat) [Value.slice x_56 x_57 x_58, Value.slice x_59 x_60 x_61] w' → ∃ (x_63 : Option Addr), ∃ (x_64 : Nat), ∃
 (x_65 : Nat), World.cell? w'_3 (Addr.add (Addr.mk g_2 (0 : Nat) Option.none) (0 : Nat)) = Option.some (Value.slice x_63 x_64 x_65) ∧ ∃ (x_66 : Option Addr), ∃ (x_67 : Nat), ∃ (x_68 :
 Nat), World.cell? w'_3 (Addr.add (Addr.mk g_2 (0 : Nat) Option.none) (1 : Nat)) = Option.some (Value.slice x_66 x_67 x_68) ∧ CallsV Try.prog (68 : Nat) #[Value.slice x_41
 x_42 x_43, Value.slice x_44 x_45 x_46, Value.bool x_47, Value.agg #[Value.slice x_63 x_64 x_65, Value.slice x_66 x_67 x_68], Value.bool x_62] w'_3 fun (v : Value) (w' : World)
 => ∃ (x_69 : Bool), v = Value.bool x_69 ∧ bif !x_69 then K (Value.bool Bool.false) w' else CallsV Try.prog (25 : Nat) #[Value.pointer a, Value.int IntKind.i64 root] w'
 fun (v : Value) (w' : World) => ∃ (x_70 : Option Addr), ∃ (x_71 : Nat), ∃ (x_72 : Nat), ∃ (x_73 : Option Addr), ∃ (x_74 : Nat), ∃ (x_75 : Nat), ∃ (x_76 : Bool), v = Value.tuple
 #[Value.slice x_70 x_71 x_72, Value.slice x_73 x_74 x_75, Value.bool x_76] ∧ ∃ (J : Int → World → Prop), (∀ (x_77 : Int) (w : World), J x_77 w → ∃ (x_78 : Option Addr), ∃ (x_79 :
 Nat), ∃ (x_80 : Nat), World.cell? w (Addr.add (Addr.mk g (0 : Nat) Option.none) (0 : Nat)) = Option.some (Value.slice x_78 x_79 x_80) ∧ ∃ (x_81 : Int), World.cell? w (Addr.add
 (Addr.mk g (0 : Nat) Option.none) (1 : Nat)) = Option.some (Value.int IntKind.i64 x_81) ∧ CallsV Try.prog (70 : Nat) #[Value.agg #[Value.slice x_78 x_79 x_80,
 Value.int IntKind.i64 x_81], Value.int IntKind.i64 x, Value.int IntKind.i64 (IntKind.wrap IntKind.i64 (x_77 - (1 : Int)))] w fun (v : Value) (w' : World) => ∃ (x_82 :
 Option Addr), ∃ (x_83 : Nat), ∃ (x_84 : Nat), ∃ (x_85 : Option Addr), ∃ (x_86 : Nat), ∃ (x_87 : Nat), ∃ (x_88 : Bool), v = Value.tuple #[Value.agg #[Value.slice x_82 x_83 x_84,
 Value.slice x_85 x_86 x_87], Value.bool x_88] ∧ stOK (Addr.mk g_2 (0 : Nat) Option.none) (0 : Nat) [Value.slice x_82 x_83 x_84, Value.slice x_85 x_86 x_87] w' ∧ ∀ (w'_4 :
 World), w'_4 = setAll (Addr.mk g_2 (0 : Nat) Option.none) (0 : Nat) [Value.slice x_82 x_83 x_84, Value.slice x_85 x_86 x_87] w' → ∃ (x_89 : Option Addr), ∃ (x_90 : Nat), ∃ (x_91 :
 Nat), World.cell? w'_4 (Addr.add (Addr.mk g_2 (0 : Nat) Option.none) (0 : Nat)) = Option.some (Value.slice x_89 x_90 x_91) ∧ ∃ (x_92 : Option Addr), ∃ (x_93 : Nat), ∃ (x_94 : Nat),
 World.cell? w'_4 (Addr.add (Addr.mk g_2 (0 : Nat) Option.none) (1 : Nat)) = Option.some (Value.slice x_92 x_93 x_94) ∧ CallsV Try.prog (68 : Nat) #[Value.slice x_70 x_71
 x_72, Value.slice x_73 x_74 x_75, Value.bool x_76, Value.agg #[Value.slice x_89 x_90 x_91, Value.slice x_92 x_93 x_94], Value.bool x_88] w'_4 fun (v : Value) (w' : World) => ∃
 (x_95 : Bool), v = Value.bool x_95 ∧ bif !x_95 then K (Value.bool Bool.false) w' else CallsV Try.prog (28 : Nat) #[Value.pointer a, Value.int IntKind.i64 root] w' fun (v
 : Value) (w' : World) => ∃ (x_96 : Int), v = Value.int IntKind.i64 x_96 ∧ bif !Decidable.decide (x_96 = x_77) then K (Value.bool Bool.false) w' else CallsV Try.prog (16 :
 Nat) #[Value.pointer a, Value.int IntKind.i64 root] w' fun (v : Value) (w' : World) => ∃ (x_97 : Int), v = Value.int IntKind.i64 x_97 ∧ bif !Decidable.decide (Decidable.decide ((0
 : Int) < x_97) = Decidable.decide ((0 : Int) ≤ x)) then K (Value.bool Bool.false) w' else ∃ (x_98 : Option Addr), ∃ (x_99 : Nat), ∃ (x_100 : Nat), World.cell? w' (Addr.add (Addr.mk g_1
 (0 : Nat) Option.none) (3 : Nat)) = Option.some (Value.slice x_98 x_99 x_100) ∧ CallsV Try.prog (23 : Nat) #[Value.pointer a, Value.int IntKind.i64 root, Value.slice x_98
 x_99 x_100] w' fun (v : Value) (w' : World) => ∃ (x_101 : Option Addr), ∃ (x_102 : Nat), ∃ (x_103 : Nat), ∃ (x_104 : Bool), v = Value.tuple #[Value.slice x_101 x_102 x_103, Value.bool
 x_104] ∧ ∃ (x_105 : Option Addr), ∃ (x_106 : Nat), ∃ (x_107 : Nat), World.cell? w' (Addr.add (Addr.mk g (0 : Nat) Option.none) (0 : Nat)) = Option.some (Value.slice x_105 x_106 x_107) ∧
 ∃ (x_108 : Int), World.cell? w' (Addr.add (Addr.mk g (0 : Nat) Option.none) (1 : Nat)) = Option.some (Value.int IntKind.i64 x_108) ∧ ∃ (x_109 : Option Addr), ∃ (x_110 : Nat), ∃ (x_111
 : Nat), World.cell? w' (Addr.add (Addr.mk g_1 (0 : Nat) Option.none) (3 : Nat)) = Option.some (Value.slice x_109 x_110 x_111) ∧ CallsV Try.prog (67 : Nat) #[Value.agg
 #[Value.slice x_105 x_106 x_107, Value.int IntKind.i64 x_108], Value.int IntKind.i64 x, Value.slice x_109 x_110 x_111, Value.bool Bool.true] w' fun (v : Value) (w' : World)
 => ∃ (x : Option Addr), ∃ (x_112 : Nat), ∃ (x_113 : Nat), ∃ (x_114 : Option Addr), ∃ (x_115 : Nat), ∃ (x_116 : Nat), ∃ (x_117 : Bool), v = Value.tuple #[Value.agg #[Value.slice x x_112
 x_113, Value.slice x_114 x_115 x_116], Value.bool x_117] ∧ stOK (Addr.mk g_2 (0 : Nat) Option.none) (0 : Nat) [Value.slice x x_112 x_113, Value.slice x_114 x_115 x_116] w' ∧ ∀
 (w'_5 : World), w'_5 = setAll (Addr.mk g_2 (0 : Nat) Option.none) (0 : Nat) [Value.slice x x_112 x_113, Value.slice x_114 x_115 x_116] w' → bif x_117 then ∃ (x : Option Addr), ∃
 (x_118 : Nat), ∃ (x_119 : Nat), World.cell? w'_5 (Addr.add (Addr.mk g_2 (0 : Nat) Option.none) (0 : Nat)) = Option.some (Value.slice x x_118 x_119) ∧ ∃ (x_120 : Option Addr), ∃ (x_121 :
 Nat), ∃ (x_122 : Nat), World.cell? w'_5 (Addr.add (Addr.mk g_1 (0 : Nat) Option.none) (3 : Nat)) = Option.some (Value.slice x_120 x_121 x_122) ∧ CallsV Try.prog (65 : Nat)
 #[Value.slice x x_118 x_119, Value.slice x_120 x_121 x_122] w'_5 fun (v : Value) (w' : World) => ∃ (x : Int), v = Value.int IntKind.i64 x ∧ bif Decidable.decide (x = (0 : Int)) then
 bif x_104 then ∃ (x : Option Addr), ∃ (x_123 : Nat), ∃ (x_124 : Nat), World.cell? w' (Addr.add (Addr.mk g_2 (0 : Nat) Option.none) (1 : Nat)) = Option.some (Value.slice x x_123 x_124) ∧
 CallsV Try.prog (26 : Nat) #[Value.slice x_101 x_102 x_103, Value.slice x x_123 x_124] w' fun (v : Value) (w' : World) => ∃ (x : Bool), v = Value.bool x ∧ K
 (Value.bool x) w' else K (Value.bool Bool.false) w' else bif !x_104 then K (Value.bool (Decidable.decide ((↑x_102 : Int) = (0 : Int)))) w' else K (Value.bool Bool.false) w' else bif !x_104
 then K (Value.bool (Decidable.decide ((↑x_102 : Int) = (0 : Int)))) w'_5 else K (Value.bool Bool.false) w'_5) ∧ bif Decidable.decide ((0 : Int) ≤ x) then ∃ (x_77 : Option Addr), ∃ (x_78 :
 Nat), ∃ (x_79 : Nat), World.cell? w' (Addr.add (Addr.mk g (0 : Nat) Option.none) (0 : Nat)) = Option.some (Value.slice x_77 x_78 x_79) ∧ ∃ (ad : Addr), x_77 = Option.some ad ∧ ((0 : Int)
 ≤ x ∧ x < (↑x_78 : Int)) ∧ ∃ (x_80 : Option Addr), ∃ (x_81 : Nat), ∃ (x_82 : Nat), World.cell? w' (Addr.add (Addr.add ad (Int.toNat x * (2 : Nat))) (1 : Nat)) = Option.some (Value.slice
 x_80 x_81 x_82) ∧ J (↑x_81 : Int) w' else J (0 : Int) w'
theorem cardindexlaw04_asked.eq (a : Option Addr) (wx0_A : Option Addr) (wx0_n : Nat) (wx0_c : Nat) (wx1 : Int) (root : Int) (o0 : Int) (o1 : Int) (o2 : Int) (o3_A : Option Addr) (o3_n : Nat) (o3_c : Nat) (o4_A : Option Addr) (o4_n : Nat) (o4_c : Nat) (o5 : Bool) (w : World) (K : Value → World → Prop) : cardindexlaw04_asked.W a wx0_A wx0_n wx0_c wx1 root o0 o1 o2 o3_A o3_n o3_c o4_A o4_n o4_c o5 w K = fnW Try.prog Try.f42 (.named (.seq .auto (.seq .auto (.seq .auto (.seq .auto (.seq .auto (.seq .auto (.seq .auto (.seq .auto (.seq .auto (.seq .auto (.join [(15, .one (.int .i64))] .auto .auto)))))))))))) [.pointer a, .agg #[.slice wx0_A wx0_n wx0_c, .int .i64 wx1], .int .i64 root, .agg #[.int .i64 o0, .int .i64 o1, .int .i64 o2, .slice o3_A o3_n o3_c, .slice o4_A o4_n o4_c, .bool o5]] w K := by kernel_rfl
theorem cardindexlaw04_asked.calls (ok : Okay Try.prog) {a : Option Addr} {wx0_A : Option Addr} {wx0_n : Nat} {wx0_c : Nat} {wx1 : Int} {root : Int} {o0 : Int} {o1 : Int} {o2 : Int} {o3_A : Option Addr} {o3_n : Nat} {o3_c : Nat} {o4_A : Option Addr} {o4_n : Nat} {o4_c : Nat} {o5 : Bool} {w : World} {K : Value → World → Prop} (h : cardindexlaw04_asked.W a wx0_A wx0_n wx0_c wx1 root o0 o1 o2 o3_A o3_n o3_c o4_A o4_n o4_c o5 w K) : CallsV Try.prog 42 #[.pointer a, .agg #[.slice wx0_A wx0_n wx0_c, .int .i64 wx1], .int .i64 root, .agg #[.int .i64 o0, .int .i64 o1, .int .i64 o2, .slice o3_A o3_n o3_c, .slice o4_A o4_n o4_c, .bool o5]] w K :=
  fnW_calls ok Try.func42 (an := (.named (.seq .auto (.seq .auto (.seq .auto (.seq .auto (.seq .auto (.seq .auto (.seq .auto (.seq .auto (.seq .auto (.seq .auto (.join [(15, .one (.int .i64))] .auto .auto))))))))))))) (args := [.pointer a, .agg #[.slice wx0_A wx0_n wx0_c, .int .i64 wx1], .int .i64 root, .agg #[.int .i64 o0, .int .i64 o1, .int .i64 o2, .slice o3_A o3_n o3_c, .slice o4_A o4_n o4_c, .bool o5]]) (by rw [← cardindexlaw04_asked.eq]; exact h)
noncomputable def cardindexlaw04_TreePlays.W : Int → Int → Option Addr → Nat → Nat → World → (Value → World → Prop) → Prop := fun (fan most : Int) (ops_A : Option Addr) (ops_n ops_c : Nat) (w :
 World) (K : Value → World → Prop) => CallsV Try.prog (13 : Nat) #[Value.int IntKind.i64 fan, Value.int IntKind.i64 most] w fun (v : Value) (w' : World) => ∃
 (x : Option Addr), ∃ (x_1 : Int), v = Value.tuple #[Value.pointer x, Value.int IntKind.i64 x_1] ∧ bif !Decidable.decide (x_1 = (0 : Int)) then bif Option.isNone x then CallsV
 Try.prog (21 : Nat) #[] w' fun (v : Value) (w' : World) => ∃ (x : Bool), v = Value.bool x ∧ K (Value.bool x) w' else K (Value.bool Bool.false) w' else ∀ (g : Nat) (w'_1 :
 World), Fresh w' g w'_1 [Value.slice Option.none (0 : Nat) (0 : Nat), Value.int IntKind.i64 (0 : Int)] (67 : Nat) → ∃ (I : Option Addr → Nat → Nat → Int → World → Prop), ∃ (μ :
 Option Addr → Nat → Nat → Int → World → Nat), I Option.none (0 : Nat) (0 : Nat) (0 : Int) w'_1 ∧ ∀ (x_2 : Option Addr) (x_3 x_4 : Nat) (x_5 : Int) (w : World), I x_2 x_3 x_4 x_5 w → bif
 Decidable.decide (x_5 < (↑ops_n : Int)) then bif Decidable.decide (x_5 < (80 : Int)) then ∃ (J : Option Addr → Nat → Nat → World → Prop), (∀ (x : Option Addr) (x_6 x_7 : Nat) (w_1 : World),
 J x x_6 x_7 w_1 → I x x_6 x_7 (IntKind.wrap IntKind.i64 (x_5 + (1 : Int))) w_1 ∧ μ x x_6 x_7 (IntKind.wrap IntKind.i64 (x_5 + (1 : Int))) w_1 < μ x_2 x_3 x_4 x_5 w) ∧ ∃ (ad : Addr),
 ops_A = Option.some ad ∧ ((0 : Int) ≤ x_5 ∧ x_5 < (↑ops_n : Int)) ∧ ∃ (x_6 : Int), World.cell? w (Addr.add (Addr.add ad (Int.toNat x_5 * (6 : Nat))) (0 : Nat)) = Option.some (Value.int
 IntKind.i64 x_6) ∧ ∃ (x_7 : Int), World.cell? w (Addr.add (Addr.add ad (Int.toNat x_5 * (6 : Nat))) (1 : Nat)) = Option.some (Value.int IntKind.i64 x_7) ∧ ∃ (x_8 : Int),
 World.cell? w (Addr.add (Addr.add ad (Int.toNat x_5 * (6 : Nat))) (2 : Nat)) = Option.some (Value.int IntKind.i64 x_8) ∧ ∃ (x_9 : Option Addr), ∃ (x_10 : Nat), ∃ (x_11 : Nat),
 World.cell? w (Addr.add (Addr.add ad (Int.toNat x_5 * (6 : Nat))) (3 : Nat)) = Option.some (Value.slice x_9 x_10 x_11) ∧ ∃ (x_12 : Option Addr), ∃ (x_13 : Nat), ∃ (x_14 : Nat),
 World.cell? w (Addr.add (Addr.add ad (Int.toNat x_5 * (6 : Nat))) (4 : Nat)) = Option.some (Value.slice x_12 x_13 x_14) ∧ ∃ (x_15 : Bool), World.cell? w (Addr.add (Addr.add ad
 (Int.toNat x_5 * (6 : Nat))) (5 : Nat)) = Option.some (Value.bool x_15) ∧ ∀ (g_1 : Nat) (w' : World), Fresh w g_1 w' [Value.int IntKind.i64 (0 : Int), Value.int IntKind.i64 (0 :
 Int), Value.int IntKind.i64 (0 : Int), Value.slice Option.none (0 : Nat) (0 : Nat), Value.slice Option.none (0 : Nat) (0 : Nat), Value.bool Bool.false] (70 : Nat) → stOK
 (Addr.mk g_1 (0 : Nat) Option.none) (0 : Nat) [Value.int IntKind.i64 x_6, Value.int IntKind.i64 x_7, Value.int IntKind.i64 x_8, Value.slice x_9 x_10 x_11, Value.slice x_12
 x_13 x_14, Value.bool x_15] w' ∧ ∀ (w'_2 : World), w'_2 = setAll (Addr.mk g_1 (0 : Nat) Option.none) (0 : Nat) [Value.int IntKind.i64 x_6, Value.int IntKind.i64 x_7,
 Value.int IntKind.i64 x_8, Value.slice x_9 x_10 x_11, Value.slice x_12 x_13 x_14, Value.bool x_15] w' → ∃ (x_16 : Option Addr), ∃ (x_17 : Nat), ∃ (x_18 : Nat), World.cell? w'_2
 (Addr.add (Addr.mk g (0 : Nat) Option.none) (0 : Nat)) = Option.some (Value.slice x_16 x_17 x_18) ∧ ∃ (x_19 : Int), World.cell? w'_2 (Addr.add (Addr.mk g (0 : Nat) Option.none) (1 :
 Nat)) = Option.some (Value.int IntKind.i64 x_19) ∧ ∃ (x_20 : Int), World.cell? w'_2 (Addr.add (Addr.mk g_1 (0 : Nat) Option.none) (1 : Nat)) = Option.some (Value.int IntKind.i64
 x_20) ∧ CallsV Try.prog (35 : Nat) #[Value.agg #[Value.slice x_16 x_17 x_18, Value.int IntKind.i64 x_19], Value.int IntKind.i64 x_20] w'_2 fun (v : Value) (w' :
 World) => ∃ (x_21 : Int), v = Value.int IntKind.i64 x_21 ∧ ∃ (x_22 : Int), World.cell? w' (Addr.add (Addr.mk g_1 (0 : Nat) Option.none) (0 : Nat)) = Option.some (Value.int
 IntKind.i64 x_22) ∧ ∃ (x_23 : Int), World.cell? w' (Addr.add (Addr.mk g_1 (0 : Nat) Option.none) (1 : Nat)) = Option.some (Value.int IntKind.i64 x_23) ∧ ∃ (x_24 : Int), World.cell?
 w' (Addr.add (Addr.mk g_1 (0 : Nat) Option.none) (2 : Nat)) = Option.some (Value.int IntKind.i64 x_24) ∧ ∃ (x_25 : Option Addr), ∃ (x_26 : Nat), ∃ (x_27 : Nat), World.cell? w'
 (Addr.add (Addr.mk g_1 (0 : Nat) Option.none) (3 : Nat)) = Option.some (Value.slice x_25 x_26 x_27) ∧ ∃ (x_28 : Option Addr), ∃ (x_29 : Nat), ∃ (x_30 : Nat), World.cell? w' (Addr.add
 (Addr.mk g_1 (0 : Nat) Option.none) (4 : Nat)) = Option.some (Value.slice x_28 x_29 x_30) ∧ ∃ (x_31 : Bool), World.cell? w' (Addr.add (Addr.mk g_1 (0 : Nat) Option.none) (5 : Nat)) =
 Option.some (Value.bool x_31) ∧ CallsV Try.prog (36 : Nat) #[Value.agg #[Value.int IntKind.i64 x_22, Value.int IntKind.i64 x_23, Value.int IntKind.i64 x_24,
 Value.slice x_25 x_26 x_27, Value.slice x_28 x_29 x_30, Value.bool x_31]] w' fun (v : Value) (w' : World) => ∃ (x_32 : Bool), v = Value.bool x_32 ∧ bif !x_32 then J x_2 x_3 x_4 w'
 else ∃ (J_1 : Option Addr → Nat → Nat → World → Prop), (∀ (x_33 : Option Addr) (x_34 x_35 : Nat) (w : World), J_1 x_33 x_34 x_35 w → CallsV Try.prog (19 : Nat)
 #[Value.pointer x] w fun (v : Value) (w' : World) => ∃ (x_36 : Int), v = Value.int IntKind.i64 x_36 ∧ bif !Decidable.decide (x_36 = (0 : Int)) then K (Value.bool Bool.false) w' else
 CallsV Try.prog (15 : Nat) #[Value.pointer x] w' fun (v : Value) (w' : World) => ∃ (x_37 : Int), v = Value.int IntKind.i64 x_37 ∧ bif Decidable.decide (most < x_37) then
 K (Value.bool Bool.false) w' else ∃ (x_38 : Option Addr), ∃ (x_39 : Nat), ∃ (x_40 : Nat), World.cell? w' (Addr.add (Addr.mk g (0 : Nat) Option.none) (0 : Nat)) = Option.some
 (Value.slice x_38 x_39 x_40) ∧ ∃ (x_41 : Int), World.cell? w' (Addr.add (Addr.mk g (0 : Nat) Option.none) (1 : Nat)) = Option.some (Value.int IntKind.i64 x_41) ∧ ∃ (x_42 : Int),
 World.cell? w' (Addr.add (Addr.mk g_1 (0 : Nat) Option.none) (1 : Nat)) = Option.some (Value.int IntKind.i64 x_42) ∧ ∃ (x_43 : Int), World.cell? w' (Addr.add (Addr.mk g_1 (0 :
 Nat) Option.none) (0 : Nat)) = Option.some (Value.int IntKind.i64 x_43) ∧ ∃ (x_44 : Int), World.cell? w' (Addr.add (Addr.mk g_1 (0 : Nat) Option.none) (1 : Nat)) = Option.some
 (Value.int IntKind.i64 x_44) ∧ ∃ (x_45 : Int), World.cell? w' (Addr.add (Addr.mk g_1 (0 : Nat) Option.none) (2 : Nat)) = Option.some (Value.int IntKind.i64 x_45) ∧ ∃ (x_46 : Option
 Addr), ∃ (x_47 : Nat), ∃ (x_48 : Nat), World.cell? w' (Addr.add (Addr.mk g_1 (0 : Nat) Option.none) (3 : Nat)) = Option.some (Value.slice x_46 x_47 x_48) ∧ ∃ (x_49 : Option Addr), ∃
 (x_50 : Nat), ∃ (x_51 : Nat), World.cell? w' (Addr.add (Addr.mk g_1 (0 : Nat) Option.none) (4 : Nat)) = Option.some (Value.slice x_49 x_50 x_51) ∧ ∃ (x_52 : Bool), World.cell? w'
 (Addr.add (Addr.mk g_1 (0 : Nat) Option.none) (5 : Nat)) = Option.some (Value.bool x_52) ∧ CallsV Try.prog (42 : Nat) #[Value.pointer x, Value.agg #[Value.slice x_38
 x_39 x_40, Value.int IntKind.i64 x_41], Value.int IntKind.i64 x_42, Value.agg #[Value.int IntKind.i64 x_43, Value.int IntKind.i64 x_44, Value.int IntKind.i64 x_45,
 Value.slice x_46 x_47 x_48, Value.slice x_49 x_50 x_51, Value.bool x_52]] w' fun (v : Value) (w' : World) => ∃ (x_53 : Bool), v = Value.bool x_53 ∧ bif !x_53 then K (Value.bool
 Bool.false) w' else ∃ (I : Int → World → Prop), ∃ (μ : Int → World → Nat), I (0 : Int) w' ∧ ∀ (x_54 : Int) (w : World), I x_54 w → ∃ (x_55 : Option Addr), ∃ (x_56 : Nat), ∃ (x_57 : Nat),
 World.cell? w (Addr.add (Addr.mk g (0 : Nat) Option.none) (0 : Nat)) = Option.some (Value.slice x_55 x_56 x_57) ∧ bif Decidable.decide (x_54 < (↑x_56 : Int)) then ∃ (S : World → Prop), S
 (World.drew w) ∧ ∃ (x_58 : Option Addr), ∃ (x_59 : Nat), ∃ (x_60 : Nat), (∀ (u : World), S u → World.cell? u (Addr.add (Addr.mk g (0 : Nat) Option.none) (0 : Nat)) = Option.some
 (Value.slice x_58 x_59 x_60)) ∧ ∃ (ad : Addr), x_58 = Option.some ad ∧ ((0 : Int) ≤ x_54 ∧ x_54 < (↑x_59 : Int)) ∧ ∃ (x_61 : Int), (∀ (u : World), S u → World.cell? u (Addr.add
 (Addr.add ad (Int.toNat x_54 * (2 : Nat))) (0 : Nat)) = Option.some (Value.int IntKind.i64 x_61)) ∧ ∃ (x_62 : Option Addr), ∃ (x_63 : Nat), ∃ (x_64 : Nat), (∀ (u : World), S u →
 World.cell? u (Addr.add (Addr.mk g (0 : Nat) Option.none) (0 : Nat)) = Option.some (Value.slice x_62 x_63 x_64)) ∧ ∃ (ad : Addr), x_62 = Option.some ad ∧ ((0 : Int) ≤ x_54 ∧ x_54 <
 (↑x_63 : Int)) ∧ ∃ (x_65 : Option Addr), ∃ (x_66 : Nat), ∃ (x_67 : Nat), (∀ (u : World), S u → World.cell? u (Addr.add (Addr.add ad (Int.toNat x_54 * (2 : Nat))) (1 : Nat)) = Option.some
 (Value.slice x_65 x_66 x_67)) ∧ CallsV Try.prog (28 : Nat) #[Value.pointer x, Value.int IntKind.i64 x_61] (World.drew w) fun (v : Value) (w' : World) => ∃ (x :
 Int), v = Value.int IntKind.i64 x ∧ S w' ∧ bif !Decidable.decide (x = (↑x_66 : Int)) then K (Value.bool Bool.false) w' else I (IntKind.wrap IntKind.i64 (x_54 + (1 : Int))) w' ∧ μ
 (IntKind.wrap IntKind.i64 (x_54 + (1 : Int))) w' < μ x_54 w else J x_33 x_34 x_35 w) ∧ ∃ (x_33 : Int), World.cell? w' (Addr.add (Addr.mk g_1 (0 : Nat) Option.none) (0 : Nat)) =
 Option.some (Value.int IntKind.i64 x_33) ∧ ∃ (J : Bool → World → Prop), (∀ (x_34 : Bool) (w : World), J x_34 w → bif x_34 then ∃ (J : Bool → World → Prop), (∀ (x_35 : Bool) (w :
 World), J x_35 w → ∃ (x_36 : Int), World.cell? w (Addr.add (Addr.mk g_1 (0 : Nat) Option.none) (1 : Nat)) = Option.some (Value.int IntKind.i64 x_36) ∧ ∃ (x_37 : Option Addr), ∃
 (x_38 : Nat), ∃ (x_39 : Nat), World.cell? w (Addr.add (Addr.mk g_1 (0 : Nat) Option.none) (3 : Nat)) = Option.some (Value.slice x_37 x_38 x_39) ∧ ∃ (x_40 : Option Addr), ∃ (x_41 : Nat),
 ∃ (x_42 : Nat), World.cell? w (Addr.add (Addr.mk g_1 (0 : Nat) Option.none) (4 : Nat)) = Option.some (Value.slice x_40 x_41 x_42) ∧ CallsV Try.prog (17 : Nat)
 #[Value.pointer x, Value.int IntKind.i64 x_36, Value.slice x_37 x_38 x_39, Value.slice x_40 x_41 x_42] w fun (v : Value) (w' : World) => ∃ (x : Bool), ∃ (x_43 : Int), v =
 Value.tuple #[Value.bool x, Value.int IntKind.i64 x_43] ∧ bif Decidable.decide (x_21 < (0 : Int)) then bif x then K (Value.bool Bool.false) w' else bif !Decidable.decide (x_43 = (41 :
 Int)) then K (Value.bool Bool.false) w' else J_1 x_2 x_3 x_4 w' else ∃ (x_44 : Option Addr), ∃ (x_45 : Nat), ∃ (x_46 : Nat), World.cell? w' (Addr.add (Addr.mk g (0 : Nat) Option.none) (0
 : Nat)) = Option.some (Value.slice x_44 x_45 x_46) ∧ ∃ (x_47 : Int), World.cell? w' (Addr.add (Addr.mk g (0 : Nat) Option.none) (1 : Nat)) = Option.some (Value.int IntKind.i64 x_47) ∧
 ∃ (x_48 : Option Addr), ∃ (x_49 : Nat), ∃ (x_50 : Nat), World.cell? w' (Addr.add (Addr.mk g_1 (0 : Nat) Option.none) (3 : Nat)) = Option.some (Value.slice x_48 x_49 x_50) ∧ CallsV
 Try.prog (37 : Nat) #[Value.agg #[Value.slice x_44 x_45 x_46, Value.int IntKind.i64 x_47], Value.int IntKind.i64 x_21, Value.slice x_48 x_49 x_50] w' fun (v : Value)
 (w' : World) => ∃ (x_51 : Int), ∃ (x_52 : Bool), v = Value.tuple #[Value.int IntKind.i64 x_51, Value.bool x_52] ∧ ∃ (J : World → Prop), (∀ (w : World), J w → bif Decidable.decide
 (x_43 = (0 : Int)) then ∃ (x : Option Addr), ∃ (x_53 : Nat), ∃ (x_54 : Nat), World.cell? w (Addr.add (Addr.mk g (0 : Nat) Option.none) (0 : Nat)) = Option.some (Value.slice x x_53 x_54)
 ∧ ∃ (x_55 : Int), World.cell? w (Addr.add (Addr.mk g (0 : Nat) Option.none) (1 : Nat)) = Option.some (Value.int IntKind.i64 x_55) ∧ ∃ (x_56 : Option Addr), ∃ (x_57 : Nat), ∃ (x_58 :
 Nat), World.cell? w (Addr.add (Addr.mk g_1 (0 : Nat) Option.none) (3 : Nat)) = Option.some (Value.slice x_56 x_57 x_58) ∧ ∃ (x_59 : Option Addr), ∃ (x_60 : Nat), ∃ (x_61 : Nat),
 World.cell? w (Addr.add (Addr.mk g_1 (0 : Nat) Option.none) (4 : Nat)) = Option.some (Value.slice x_59 x_60 x_61) ∧ CallsV Try.prog (38 : Nat) #[Value.agg
 #[Value.slice x x_53 x_54, Value.int IntKind.i64 x_55], Value.int IntKind.i64 x_21, Value.slice x_56 x_57 x_58, Value.slice x_59 x_60 x_61] w fun (v : Value) (w' : World) =>
 ∃ (x : Option Addr), ∃ (x_62 : Nat), ∃ (x_63 : Nat), ∃ (x_64 : Int), v = Value.agg #[Value.slice x x_62 x_63, Value.int IntKind.i64 x_64] ∧ stOK (Addr.mk g (0 : Nat)
 Option.none) (0 : Nat) [Value.slice x x_62 x_63, Value.int IntKind.i64 x_64] w' ∧ ∀ (w'_3 : World), w'_3 = setAll (Addr.mk g (0 : Nat) Option.none) (0 : Nat) [Value.slice x x_62
 x_63, Value.int IntKind.i64 x_64] w' → J_1 x_2 x_3 x_4 w'_3 else J_1 x_2 x_3 x_4 w) ∧ bif Decidable.decide (x_43 = (5 : Int)) then bif x_52 then K (Value.bool Bool.false) w' else bif x_35 then
 K (Value.bool Bool.false) w' else bif !Decidable.decide (x_43 = (0 : Int)) then bif !Decidable.decide (x_43 = (5 : Int)) then K (Value.bool Bool.false) w' else bif x_52 then bif !Decidable.decide
 (x = Decidable.decide (x_43 = (0 : Int))) then K (Value.bool Bool.false) w' else J w' else bif !Decidable.decide (x = Bool.false) then K (Value.bool Bool.false) w' else J w' else bif x_52 then
 bif !Decidable.decide (x = Decidable.decide (x_43 = (0 : Int))) then K (Value.bool Bool.false) w' else J w' else bif !Decidable.decide (x = Bool.false) then K (Value.bool Bool.false) w' else J w'
 else bif !Decidable.decide (x_43 = (0 : Int)) then bif !Decidable.decide (x_43 = (5 : Int)) then K (Value.bool Bool.false) w' else bif x_52 then bif !Decidable.decide (x = Decidable.decide (x_43 =
 (0 : Int))) then K (Value.bool Bool.false) w' else J w' else bif !Decidable.decide (x = Bool.false) then K (Value.bool Bool.false) w' else J w' else bif x_52 then bif !Decidable.decide (x =
 Decidable.decide (x_43 = (0 : Int))) then K (Value.bool Bool.false) w' else J w' else bif !Decidable.decide (x = Bool.false) then K (Value.bool Bool.false) w' else J w') ∧ ∃ (S : World →
 Prop), S (World.drew w) ∧ ∃ (x_35 : Int), (∀ (u : World), S u → World.cell? u (Addr.add (Addr.mk g_1 (0 : Nat) Option.none) (1 : Nat)) = Option.some (Value.int IntKind.i64 x_35)) ∧
 CallsV Try.prog (15 : Nat) #[Value.pointer x] (World.drew w) fun (v : Value) (w' : World) => ∃ (x_36 : Int), v = Value.int IntKind.i64 x_36 ∧ S w' ∧ CallsV
 Try.prog (16 : Nat) #[Value.pointer x, Value.int IntKind.i64 x_35] w' fun (v : Value) (w' : World) => ∃ (x : Int), v = Value.int IntKind.i64 x ∧ J (Decidable.decide
 (IntKind.wrap IntKind.i64 (IntKind.wrap IntKind.i64 (x_36 + x) + (1 : Int)) ≤ most)) w' else ∃ (J : Bool → World → Prop), (∀ (x_35 : Bool) (w : World), J x_35 w → bif x_35 then ∃
 (x_36 : Int), World.cell? w (Addr.add (Addr.mk g_1 (0 : Nat) Option.none) (1 : Nat)) = Option.some (Value.int IntKind.i64 x_36) ∧ ∃ (x_37 : Option Addr), ∃ (x_38 : Nat), ∃ (x_39 :
 Nat), World.cell? w (Addr.add (Addr.mk g_1 (0 : Nat) Option.none) (3 : Nat)) = Option.some (Value.slice x_37 x_38 x_39) ∧ CallsV Try.prog (29 : Nat) #[Value.pointer x,
 Value.int IntKind.i64 x_36, Value.slice x_37 x_38 x_39] w fun (v : Value) (w' : World) => ∃ (x : Bool), ∃ (x_40 : Int), v = Value.tuple #[Value.bool x, Value.int IntKind.i64
 x_40] ∧ bif Decidable.decide (x_21 < (0 : Int)) then bif x then K (Value.bool Bool.false) w' else bif !Decidable.decide (x_40 = (41 : Int)) then K (Value.bool Bool.false) w' else J_1 x_2 x_3 x_4
 w' else ∃ (x_41 : Option Addr), ∃ (x_42 : Nat), ∃ (x_43 : Nat), World.cell? w' (Addr.add (Addr.mk g (0 : Nat) Option.none) (0 : Nat)) = Option.some (Value.slice x_41 x_42 x_43) ∧ ∃ (x_44
 : Int), World.cell? w' (Addr.add (Addr.mk g (0 : Nat) Option.none) (1 : Nat)) = Option.some (Value.int IntKind.i64 x_44) ∧ ∃ (x_45 : Option Addr), ∃ (x_46 : Nat), ∃ (x_47 : Nat),
 World.cell? w' (Addr.add (Addr.mk g_1 (0 : Nat) Option.none) (3 : Nat)) = Option.some (Value.slice x_45 x_46 x_47) ∧ CallsV Try.prog (37 : Nat) #[Value.agg
 #[Value.slice x_41 x_42 x_43, Value.int IntKind.i64 x_44], Value.int IntKind.i64 x_21, Value.slice x_45 x_46 x_47] w' fun (v : Value) (w' : World) => ∃ (x_48 : Int), ∃ (x_49 :
 Bool), v = Value.tuple #[Value.int IntKind.i64 x_48, Value.bool x_49] ∧ bif !Decidable.decide (x_40 = (0 : Int)) then K (Value.bool Bool.false) w' else bif !Decidable.decide (x = x_49)
 then K (Value.bool Bool.false) w' else ∃ (x : Option Addr), ∃ (x_50 : Nat), ∃ (x_51 : Nat), World.cell? w' (Addr.add (Addr.mk g (0 : Nat) Option.none) (0 : Nat)) = Option.some
 (Value.slice x x_50 x_51) ∧ ∃ (x_52 : Int), World.cell? w' (Addr.add (Addr.mk g (0 : Nat) Option.none) (1 : Nat)) = Option.some (Value.int IntKind.i64 x_52) ∧ ∃ (x_53 : Option
 Addr), ∃ (x_54 : Nat), ∃ (x_55 : Nat), World.cell? w' (Addr.add (Addr.mk g_1 (0 : Nat) Option.none) (3 : Nat)) = Option.some (Value.slice x_53 x_54 x_55) ∧ CallsV
 Try.prog (39 : Nat) #[Value.agg #[Value.slice x x_50 x_51, Value.int IntKind.i64 x_52], Value.int IntKind.i64 x_21, Value.slice x_53 x_54 x_55] w' fun (v : Value) (w'
 : World) => ∃ (x : Option Addr), ∃ (x_56 : Nat), ∃ (x_57 : Nat), ∃ (x_58 : Int), v = Value.agg #[Value.slice x x_56 x_57, Value.int IntKind.i64 x_58] ∧ stOK (Addr.mk g (0 :
 Nat) Option.none) (0 : Nat) [Value.slice x x_56 x_57, Value.int IntKind.i64 x_58] w' ∧ ∀ (w'_3 : World), w'_3 = setAll (Addr.mk g (0 : Nat) Option.none) (0 : Nat) [Value.slice x
 x_56 x_57, Value.int IntKind.i64 x_58] w' → J_1 x_2 x_3 x_4 w'_3 else bif Decidable.decide (x_33 = (10 : Int)) then CallsV Try.prog (15 : Nat) #[Value.pointer x] w fun (v :
 Value) (w' : World) => ∃ (x_36 : Int), v = Value.int IntKind.i64 x_36 ∧ ∃ (J : World → Prop), (∀ (w : World), J w → bif Decidable.decide (x_36 < most) then ∃ (x : Option Addr), ∃
 (x_37 : Nat), ∃ (x_38 : Nat), World.cell? w (Addr.add (Addr.mk g (0 : Nat) Option.none) (0 : Nat)) = Option.some (Value.slice x x_37 x_38) ∧ ∃ (x_39 : Int), World.cell? w (Addr.add
 (Addr.mk g (0 : Nat) Option.none) (1 : Nat)) = Option.some (Value.int IntKind.i64 x_39) ∧ CallsV Try.prog (40 : Nat) #[Value.agg #[Value.slice x x_37 x_38, Value.int
 IntKind.i64 x_39]] w fun (v : Value) (w' : World) => ∃ (x : Option Addr), ∃ (x_40 : Nat), ∃ (x_41 : Nat), ∃ (x_42 : Int), v = Value.agg #[Value.slice x x_40 x_41, Value.int
 IntKind.i64 x_42] ∧ stOK (Addr.mk g (0 : Nat) Option.none) (0 : Nat) [Value.slice x x_40 x_41, Value.int IntKind.i64 x_42] w' ∧ ∀ (w'_3 : World), w'_3 = setAll (Addr.mk
 g (0 : Nat) Option.none) (0 : Nat) [Value.slice x x_40 x_41, Value.int IntKind.i64 x_42] w' → J_1 x_2 x_3 x_4 w'_3 else J_1 x_2 x_3 x_4 w) ∧ CallsV Try.prog (14 : Nat)
 #[Value.pointer x] w' fun (v : Value) (w' : World) => ∃ (x : Int), ∃ (x_37 : Int), v = Value.tuple #[Value.int IntKind.i64 x, Value.int IntKind.i64 x_37] ∧ bif !Decidable.decide
 (Decidable.decide (x_37 = (0 : Int)) = Decidable.decide (x_36 < most)) then K (Value.bool Bool.false) w' else bif Decidable.decide (x_37 = (0 : Int)) then ∃ (x_38 : Int), World.cell? w'
 (Addr.add (Addr.mk g (0 : Nat) Option.none) (1 : Nat)) = Option.some (Value.int IntKind.i64 x_38) ∧ bif !Decidable.decide (x = IntKind.wrap IntKind.i64 (x_38 + (1 : Int))) then K
 (Value.bool Bool.false) w' else bif !Decidable.decide (x_37 = (0 : Int)) then bif !Decidable.decide (x = (0 : Int)) then K (Value.bool Bool.false) w' else bif !Decidable.decide (x_37 = (5 : Int))
 then K (Value.bool Bool.false) w' else J w' else J w' else bif !Decidable.decide (x_37 = (0 : Int)) then bif !Decidable.decide (x = (0 : Int)) then K (Value.bool Bool.false) w' else bif
 !Decidable.decide (x_37 = (5 : Int)) then K (Value.bool Bool.false) w' else J w' else J w' else bif Decidable.decide (x_33 = (11 : Int)) then ∃ (x_36 : Int), World.cell? w (Addr.add
 (Addr.mk g_1 (0 : Nat) Option.none) (1 : Nat)) = Option.some (Value.int IntKind.i64 x_36) ∧ CallsV Try.prog (30 : Nat) #[Value.pointer x, Value.int IntKind.i64 x_36] w
 fun (v : Value) (w' : World) => ∃ (x : Int), v = Value.int IntKind.i64 x ∧ bif !Decidable.decide (Decidable.decide (x = (0 : Int)) = Decidable.decide ((0 : Int) ≤ x_21)) then K
 (Value.bool Bool.false) w' else bif Decidable.decide (x_21 < (0 : Int)) then bif !Decidable.decide (x = (41 : Int)) then K (Value.bool Bool.false) w' else bif Decidable.decide ((0 : Int) ≤ x_21)
 then ∃ (x : Option Addr), ∃ (x_37 : Nat), ∃ (x_38 : Nat), World.cell? w' (Addr.add (Addr.mk g (0 : Nat) Option.none) (0 : Nat)) = Option.some (Value.slice x x_37 x_38) ∧ ∃ (x_39 : Int),
 World.cell? w' (Addr.add (Addr.mk g (0 : Nat) Option.none) (1 : Nat)) = Option.some (Value.int IntKind.i64 x_39) ∧ CallsV Try.prog (41 : Nat) #[Value.agg
 #[Value.slice x x_37 x_38, Value.int IntKind.i64 x_39], Value.int IntKind.i64 x_21] w' fun (v : Value) (w' : World) => ∃ (x : Option Addr), ∃ (x_40 : Nat), ∃ (x_41 : Nat), ∃
 (x_42 : Int), v = Value.agg #[Value.slice x x_40 x_41, Value.int IntKind.i64 x_42] ∧ stOK (Addr.mk g (0 : Nat) Option.none) (0 : Nat) [Value.slice x x_40 x_41, Value.int
 IntKind.i64 x_42] w' ∧ ∀ (w'_3 : World), w'_3 = setAll (Addr.mk g (0 : Nat) Option.none) (0 : Nat) [Value.slice x x_40 x_41, Value.int IntKind.i64 x_42] w' → J_1 x_2 x_3 x_4
 w'_3 else J_1 x_2 x_3 x_4 w' else bif Decidable.decide ((0 : Int) ≤ x_21) then ∃ (x : Option Addr), ∃ (x_37 : Nat), ∃ (x_38 : Nat), World.cell? w' (Addr.add (Addr.mk g (0 : Nat)
 Option.none) (0 : Nat)) = Option.some (Value.slice x x_37 x_38) ∧ ∃ (x_39 : Int), World.cell? w' (Addr.add (Addr.mk g (0 : Nat) Option.none) (1 : Nat)) = Option.some (Value.int
 IntKind.i64 x_39) ∧ CallsV Try.prog (41 : Nat) #[Value.agg #[Value.slice x x_37 x_38, Value.int IntKind.i64 x_39], Value.int IntKind.i64 x_21] w' fun (v : Value)
 (w' : World) => ∃ (x : Option Addr), ∃ (x_40 : Nat), ∃ (x_41 : Nat), ∃ (x_42 : Int), v = Value.agg #[Value.slice x x_40 x_41, Value.int IntKind.i64 x_42] ∧ stOK (Addr.mk g (0
 : Nat) Option.none) (0 : Nat) [Value.slice x x_40 x_41, Value.int IntKind.i64 x_42] w' ∧ ∀ (w'_3 : World), w'_3 = setAll (Addr.mk g (0 : Nat) Option.none) (0 : Nat) [Value.slice
 x x_40 x_41, Value.int IntKind.i64 x_42] w' → J_1 x_2 x_3 x_4 w'_3 else J_1 x_2 x_3 x_4 w' else bif Decidable.decide (x_33 = (12 : Int)) then ∃ (S : World → Prop), S (World.drew w) ∧ ∃
 (x_36 : Option Addr), ∃ (x_37 : Nat), ∃ (x_38 : Nat), (∀ (u : World), S u → World.cell? u (Addr.add (Addr.mk g (0 : Nat) Option.none) (0 : Nat)) = Option.some (Value.slice x_36 x_37
 x_38)) ∧ ∃ (x_39 : Int), (∀ (u : World), S u → World.cell? u (Addr.add (Addr.mk g (0 : Nat) Option.none) (1 : Nat)) = Option.some (Value.int IntKind.i64 x_39)) ∧ CallsV
 Try.prog (31 : Nat) #[Value.pointer x] (World.drew w) fun (v : Value) (w' : World) => ∃ (x : Option Addr), v = Value.pointer x ∧ S w' ∧ ∀ (g : Nat) (w'_3 : World),
 Fresh w' g w'_3 [Value.pointer x, Value.slice x_36 x_37 x_38, Value.int IntKind.i64 x_39] (78 : Nat) → S w'_3 ∧ ∃ (x : Option Addr), ∃ (x_40 : Nat), ∃ (x_41 : Nat), ∃ (w' :
 World), RunsTo Try.prog (Builtin.append_ (Array.mk [(68 : Nat), (68 : Nat)]) (68 : Nat) #[Value.slice x_2 x_3 x_4, Value.slice (Option.some (Addr.mk g (0 : Nat)
 Option.none)) (1 : Nat) (1 : Nat)]) w'_3 (Value.slice x x_40 x_41) w' ∧ S w' ∧ J_1 x x_40 x_41 w' else bif Decidable.decide (x_33 = (13 : Int)) then bif Decidable.decide ((0 : Int) < (↑x_3 : Int))
 then ∃ (x_36 : Int), World.cell? w (Addr.add (Addr.mk g_1 (0 : Nat) Option.none) (2 : Nat)) = Option.some (Value.int IntKind.i64 x_36) ∧ CallsV Try.prog (12 : Nat)
 #[Value.int IntKind.i64 x_36, Value.int IntKind.i64 (↑x_3 : Int)] w fun (v : Value) (w' : World) => ∃ (x_37 : Int), v = Value.int IntKind.i64 x_37 ∧ ∃ (ad : Addr), x_2 =
 Option.some ad ∧ ((0 : Int) ≤ x_37 ∧ x_37 < (↑x_3 : Int)) ∧ ∃ (x_38 : Option Addr), World.cell? w' (Addr.add (Addr.add ad (Int.toNat x_37 * (3 : Nat))) (0 : Nat)) = Option.some
 (Value.pointer x_38) ∧ ∃ (x_39 : Option Addr), ∃ (x_40 : Nat), ∃ (x_41 : Nat), World.cell? w' (Addr.add (Addr.add ad (Int.toNat x_37 * (3 : Nat))) (1 : Nat)) = Option.some
 (Value.slice x_39 x_40 x_41) ∧ ∃ (x_42 : Int), World.cell? w' (Addr.add (Addr.add ad (Int.toNat x_37 * (3 : Nat))) (2 : Nat)) = Option.some (Value.int IntKind.i64 x_42) ∧ ∀ (g_2 :
 Nat) (w'_3 : World), Fresh w' g_2 w'_3 [Value.pointer Option.none, Value.slice Option.none (0 : Nat) (0 : Nat), Value.int IntKind.i64 (0 : Int)] (78 : Nat) → stOK (Addr.mk
 g_2 (0 : Nat) Option.none) (0 : Nat) [Value.pointer x_38, Value.slice x_39 x_40 x_41, Value.int IntKind.i64 x_42] w'_3 ∧ ∀ (w' : World), w' = setAll (Addr.mk g_2 (0 : Nat)
 Option.none) (0 : Nat) [Value.pointer x_38, Value.slice x_39 x_40 x_41, Value.int IntKind.i64 x_42] w'_3 → ∃ (x_43 : Option Addr), World.cell? w' (Addr.add (Addr.mk g_2 (0 :
 Nat) Option.none) (0 : Nat)) = Option.some (Value.pointer x_43) ∧ CallsV Try.prog (32 : Nat) #[Value.pointer x, Value.pointer x_43] w' fun (v : Value) (w' : World) => ∃
 (x : Int), v = Value.int IntKind.i64 x ∧ bif !Decidable.decide (x = (0 : Int)) then K (Value.bool Bool.false) w' else ∃ (x : Option Addr), ∃ (x_44 : Nat), ∃ (x_45 : Nat), World.cell? w'
 (Addr.add (Addr.add (Addr.mk g_2 (0 : Nat) Option.none) (1 : Nat)) (0 : Nat)) = Option.some (Value.slice x x_44 x_45) ∧ ∃ (x_46 : Int), World.cell? w' (Addr.add (Addr.add
 (Addr.mk g_2 (0 : Nat) Option.none) (1 : Nat)) (1 : Nat)) = Option.some (Value.int IntKind.i64 x_46) ∧ stOK (Addr.mk g (0 : Nat) Option.none) (0 : Nat) [Value.slice x x_44 x_45,
 Value.int IntKind.i64 x_46] w' ∧ ∀ (w'_4 : World), w'_4 = setAll (Addr.mk g (0 : Nat) Option.none) (0 : Nat) [Value.slice x x_44 x_45, Value.int IntKind.i64 x_46] w' → J_1
 x_2 x_3 x_4 w'_4 else J_1 x_2 x_3 x_4 w else J_1 x_2 x_3 x_4 w) ∧ bif Decidable.decide (x_33 = (5 : Int)) then J (Decidable.decide (x_33 = (5 : Int))) w else J (Decidable.decide (x_33 = (6 : Int))) w)
 ∧ bif Decidable.decide (x_33 = (1 : Int)) then J (Decidable.decide (x_33 = (1 : Int))) w' else bif Decidable.decide (x_33 = (2 : Int)) then J (Decidable.decide (x_33 = (2 : Int))) w' else bif
 Decidable.decide (x_33 = (3 : Int)) then J (Decidable.decide (x_33 = (3 : Int))) w' else J (Decidable.decide (x_33 = (4 : Int))) w' else CallsV Try.prog (21 : Nat) #[] w fun (v :
 Value) (w' : World) => ∃ (x : Bool), v = Value.bool x ∧ K (Value.bool x) w' else CallsV Try.prog (21 : Nat) #[] w fun (v : Value) (w' : World) => ∃ (x : Bool), v =
 Value.bool x ∧ K (Value.bool x) w'
theorem cardindexlaw04_TreePlays.eq (fan : Int) (most : Int) (ops_A : Option Addr) (ops_n : Nat) (ops_c : Nat) (w : World) (K : Value → World → Prop) : cardindexlaw04_TreePlays.W fan most ops_A ops_n ops_c w K = fnW Try.prog Try.f10 (.named (.seq .auto (.seq .auto (.seq .auto (.seq .auto (.seq .auto (.seq (.seq .auto (.block (.loop [(10, .one .slc), (11, .one (.int .i64))] (.seq .auto (.join [(10, .one .slc)] (.block (.seq .auto (.seq .auto (.seq .auto (.join [(10, .one .slc)] (.seq .auto (.block (.join [(65, .one .bool)] .auto (.cond (.join [(14, .one .bool)] .auto (.seq .auto (.seq .auto (.seq .auto (.join [] .auto .auto))))) (.join [(140, .one .bool)] .auto (.cond .auto (.seq .auto (.cond (.seq .auto (.join [] .auto .auto)) .auto)))))))) (.seq .auto (.seq .auto (.block (.loop [(28, .one (.int .i64))] .auto))))))))) .auto))))) .auto))))))) [.int .i64 fan, .int .i64 most, .slice ops_A ops_n ops_c] w K := by kernel_rfl
theorem cardindexlaw04_TreePlays.calls (ok : Okay Try.prog) {fan : Int} {most : Int} {ops_A : Option Addr} {ops_n : Nat} {ops_c : Nat} {w : World} {K : Value → World → Prop} (h : cardindexlaw04_TreePlays.W fan most ops_A ops_n ops_c w K) : CallsV Try.prog 10 #[.int .i64 fan, .int .i64 most, .slice ops_A ops_n ops_c] w K :=
  fnW_calls ok Try.func10 (an := (.named (.seq .auto (.seq .auto (.seq .auto (.seq .auto (.seq .auto (.seq (.seq .auto (.block (.loop [(10, .one .slc), (11, .one (.int .i64))] (.seq .auto (.join [(10, .one .slc)] (.block (.seq .auto (.seq .auto (.seq .auto (.join [(10, .one .slc)] (.seq .auto (.block (.join [(65, .one .bool)] .auto (.cond (.join [(14, .one .bool)] .auto (.seq .auto (.seq .auto (.seq .auto (.join [] .auto .auto))))) (.join [(140, .one .bool)] .auto (.cond .auto (.seq .auto (.cond (.seq .auto (.join [] .auto .auto)) .auto)))))))) (.seq .auto (.seq .auto (.block (.loop [(28, .one (.int .i64))] .auto))))))))) .auto))))) .auto)))))))) (args := [.int .i64 fan, .int .i64 most, .slice ops_A ops_n ops_c]) (by rw [← cardindexlaw04_TreePlays.eq]; exact h)
end Go.Proofs.Ytadlhdiejmilmaa
/- Layer 4: a tree tells what the document's does. -/
set_option linter.unusedVariables false
set_option linter.unusedSimpArgs false
namespace Go.Proofs.Ytadlhdiejmilmaa
open Go Go.Sx T4
theorem is_spec {w : World} {Ω Ω' : Nat → Prop} {x : Option (Key × Key)} {A A1 A2 : Option Addr} {n n1 c1 n2 c2 : Nat} {B : Option Addr} {m : Nat} {ok b : Bool} (h : TI Ω w x A n B m ok) (c d : Nat) (he : EnR Ω' w x (.tuple #[.agg #[.slice A1 n1 c1, .slice A2 n2 c2], .bool b])) :
    CallsV Try.prog 68 #[.slice A n c, .slice B m d, .bool ok, .agg #[.slice A1 n1 c1, .slice A2 n2 c2], .bool b] w fun r w' => r = .bool true ∧ Ext w w' := by
  refine cardindexlaw04_is.calls okay ?_
  unfold cardindexlaw04_is.W
  intro g w1 f1
  have e1 := f1.ext
  have hb := f1.blk
  cases x with
  | none =>
    obtain ⟨rfl, rfl, rfl, rfl, rfl⟩ := h
    cases he
    refine brd (fun _ => ⟨_, _, _, hb.cell rfl, (SameBytes_spec (c := c) (d := 0) (Imm.nil KB NoB w1 none) (Imm.nil KB NoB w1 none)).same ⟨_, rfl, br (fun _ => ⟨_, _, _, hb.cell rfl, (SameBytes_spec (c := d) (d := 0) (Imm.nil KB NoB w1 none) (Imm.nil KB NoB w1 none)).same ⟨_, rfl, rfl, e1⟩⟩) fun h => by cases h⟩⟩) fun h => absurd rfl h
  | some p =>
    obtain ⟨k, v⟩ := p
    obtain ⟨rfl, rfl, rfl, i1, i2⟩ := h
    obtain ⟨B1, d1, B2, d2, e, l1, l2, j1, j2⟩ := he
    simp only [Value.tuple.injEq, Array.mk.injEq, List.cons.injEq, Value.agg.injEq, Value.slice.injEq, Value.bool.injEq, and_true] at e
    obtain ⟨⟨⟨rfl, rfl, rfl⟩, rfl, rfl, rfl⟩, rfl⟩ := e
    refine brd (fun _ => ⟨_, _, _, hb.cell rfl, (SameBytes_spec (c := c) (i1.ext KB_pos e1) (j1.ext KB_pos e1)).same ⟨_, rfl, br (fun _ => ⟨_, _, _, hb.cell rfl, (SameBytes_spec (c := d) (i2.ext KB_pos e1) (j2.ext KB_pos e1)).same ⟨_, rfl, by simp, e1⟩⟩) fun h => absurd h (by simp)⟩⟩) fun h => absurd rfl h
theorem small_spec {w : World} (o0 o1 o2 : Int) (KA VA : Option Addr) (kn kc vn vc : Nat) (b : Bool) :
    CallsV Try.prog 36 #[.agg #[.int .i64 o0, .int .i64 o1, .int .i64 o2, .slice KA kn kc, .slice VA vn vc, .bool b]] w fun r w' => r = .bool (decide (kn ≤ 100 ∧ vn ≤ 100)) ∧ Ext w w' := by
  refine cardindexlaw04_small.calls okay ?_
  unfold cardindexlaw04_small.W
  intro g w1 f1
  refine ⟨_, _, _, f1.blk.cell rfl, brd (fun h1 => ⟨_, _, _, f1.blk.cell rfl, ?_, f1.ext⟩) (fun h1 => ⟨?_, f1.ext⟩)⟩
  · congr 1; rw [decide_eq_decide]; omega
  · rw [decide_eq_false (by omega)]
theorem get_aft {es : Es} (hu : UpE es) (key : Key) : (match aftE key true es with | none => getE key es = none | some (k, v) => if k = key then getE key es = some v else getE key es = none) := by
  rw [aft_pos hu, get_has]
  cases hb : has (keysE es) key with
  | true =>
    have hk : (keysE es)[pos (keysE es) key]? = some key := of_decide_eq_true hb
    simp only [Bool.not_true, Bool.and_false, Bool.false_eq_true, if_false, Nat.add_zero, if_true]
    cases hp : es[pos (keysE es) key]? with
    | none =>
      have : (valsE es)[pos (keysE es) key]? = none := by simp [valsE, hp]
      exact this
    | some p =>
      obtain ⟨k, v⟩ := p
      have h1 := keysE_get hp
      rw [hk] at h1
      cases h1
      simp only [if_true]
      simp [valsE, hp]
  | false =>
    simp only [Bool.false_and, Bool.false_eq_true, if_false, Nat.add_zero]
    cases hp : es[pos (keysE es) key]? with
    | none => trivial
    | some p =>
      obtain ⟨k, v⟩ := p
      have h1 := keysE_get hp
      have : k ≠ key := fun e => by
        subst e
        have : has (keysE es) k = true := decide_eq_true h1
        rw [hb] at this; cases this
      simp only [if_neg this]
set_option maxHeartbeats 1000000 in
theorem asked_spec {w : World} {R M : Nat → Prop} {g : Nat} {A : Ar} {Ds : List Tr} (h : Ar1 R M w g A) (hI : Inv A Ds) {Ω : Nat → Prop} {TA : Option Addr} {tc : Nat} (hT : TrR Ω w TA tc (foD Ds)) (hΩ : ∀ k, Ω k → k < w.heap.size) {n : Nat} (hs : Sml (foD Ds) n) (hn : n ≤ 100000) (last root : Int) (o0 o1 o2 : Int) {Ω1 : Nat → Prop} {KA : Option Addr} {key : Key} (hK : Imm KB Ω1 w KA key) (hkl : key.length ≤ 1048576) (kc : Nat) (VA : Option Addr) (vn vc : Nat) (b : Bool) :
    CallsV Try.prog 42 #[.pointer (some ⟨g, 0, none⟩), trV TA tc (foD Ds) last, .int .i64 root, .agg #[.int .i64 o0, .int .i64 o1, .int .i64 o2, .slice KA key.length kc, .slice VA vn vc, .bool b]] w fun r w' => r = .bool true ∧ Ext w w' := by
  refine cardindexlaw04_asked.calls okay ?_
  unfold cardindexlaw04_asked.W
  intro gt w1 f1 go w2 f2
  have e2 : Ext w w2 := f1.ext.trans' f2.ext
  have bt : Blk w2 gt [.slice TA (foD Ds).length tc, .int .i64 last] := f1.blk.ext f2.ext
  have bo : Blk w2 go [.int .i64 o0, .int .i64 o1, .int .i64 o2, .slice KA key.length kc, .slice VA vn vc, .bool b] := f2.blk
  have hup : ∀ es, gF (foD Ds) root = some es → UpE es := fun es he => hI.upD he
  have hsl : (foD Ds).length ≤ n := hs.len
  refine ⟨_, _, _, bt.cell rfl, _, bt.cell rfl, (Find_spec (hT.ext e2).1 (by omega) last root).mono ?_⟩
  rintro _ w3 ⟨i, rfl, hf, e3⟩
  have e23 := e2.trans' e3
  refine ⟨_, rfl, _, _, _, (bo.ext e3).cell rfl, _, (bo.ext e3).cell rfl, (uAfter (h.ext e23) hI root (hK.ext KB_pos e23) kc b).mono ?_⟩
  rintro _ w4 ⟨ht4, e4⟩
  have e24 := e23.trans' e4
  have e34 := e3.trans' e4
  obtain ⟨A4, n4, c4, B4, m4, d4, k4, rfl, ti4⟩ := ht4.ti (Ω := NoB) fun _ h => h.elim
  refine ⟨_, _, _, _, _, _, _, rfl, _, _, _, (bt.ext e34).cell rfl, _, (bt.ext e34).cell rfl, _, _, _, (bo.ext e34).cell rfl, _, (bo.ext e34).cell rfl, (rAfter (hT.ext e24) hs hn hf hup last (hK.ext KB_pos e24) kc b).mono ?_⟩
  rintro _ w5 ⟨en5, e5⟩
  obtain ⟨P5, p5, q5, S5, s5, t5, b5, rfl⟩ := en5.form
  have e25 := e24.trans' e5
  have e35 := e34.trans' e5
  refine ⟨_, _, _, _, _, _, _, rfl, ?_⟩
  intro g2 w6 f6
  refine ⟨f6.blk.stOK (o := 0) [_, _] 0 (by simp), fun w7 hw7 => ?_⟩
  have b7 : Blk w7 g2 [.slice P5 p5 q5, .slice S5 s5 t5] := by rw [hw7]; exact Blk.setAll (o := 0) [.slice P5 p5 q5, .slice S5 s5 t5] 0 f6.blk
  have e57 : Ext w5 w7 := by rw [hw7]; exact f6.ext.setAll f6.ge _ _
  have e27 : Ext w w7 := e25.trans' e57
  have e37 : Ext w2 w7 := e35.trans' e57
  have hg2 : w5.heap.size ≤ g2 := f6.ge
  have hg2w : w.heap.size ≤ g2 := Nat.le_trans e25.size hg2
  refine ⟨_, _, _, b7.cell rfl, _, _, _, b7.cell rfl, (is_spec (ti4.ext (e5.trans' e57)) c4 d4 (en5.ext e57)).mono ?_⟩
  rintro _ w8 ⟨rfl, e8⟩
  have e28 := e27.trans' e8
  have e38 := e37.trans' e8
  have b8 := b7.ext e8
  -- g2 is written to again and again
  obtain ⟨Ω2, hΩe⟩ : ∃ Ω2 : Nat → Prop, Ω2 = fun k => Ω k ∨ k = g2 := ⟨_, rfl⟩
  have stE : ∀ {u}, Ext w u → Step Ω w Ω2 u := fun e => ⟨e.size, fun k hk _ => e.block k hk fun h => h, fun k hk h => by
    rw [hΩe] at h
    rcases h with h | h
    · exact h
    · omega⟩
  have h2lt : ∀ {u : World}, Ext w8 u → ∀ k, k = g2 → k < u.heap.size := fun e k hk => by have := b8.lt; have := e.size; omega
  have wr : ∀ {u u' : World} {X Y : Option Addr} {a c d f : Nat}, Blk u g2 [.slice X a c, .slice Y d f] → ∀ {P Q : Option Addr} {p q s t : Nat}, u' = setAll ⟨g2, 0, none⟩ 0 [.slice P p q, .slice Q s t] u → Blk u' g2 [.slice P p q, .slice Q s t] ∧ Fr (fun k => k = g2) u u' := fun hb _ _ _ _ _ _ hu => by
    subst hu
    exact ⟨Blk.setAll (o := 0) [_, _] 0 hb, Fr.setAll _ _ _⟩
  have st1 : ∀ {u u' : World}, Fr (fun k => k = g2) u u' → Step (fun k => k = g2) u (fun k => k = g2) u' := fun f => f.step (fun _ _ h => h) (fun _ _ h => h)
  have st2 : ∀ {u u' : World}, Fr (fun k => k = g2) u u' → Step Ω2 u Ω2 u' := fun f => f.step (fun k _ h => by rw [hΩe]; exact .inr h) (fun _ _ h => h)
  have exw : ∀ {u u' : World}, Ext w u → Fr (fun k => k = g2) u u' → Ext w u' := fun e f => e.trans f (fun _ _ h => h) (fun k hk e => by have e : k = g2 := e; omega)
  have exg : ∀ {u u' : World} {k : Nat} {cs : List Value}, Blk u k cs → k < w5.heap.size → Fr (fun k => k = g2) u u' → Blk u' k cs := fun hb hk f => hb.keep f (fun e => by have e : _ = g2 := e; omega)
  have gtl : gt < w5.heap.size := (bt.ext e35).lt
  have gol : go < w5.heap.size := (bo.ext e35).lt
  refine ⟨_, rfl, brnb (fun h => by cases h) fun _ => ⟨_, _, _, (bo.ext e38).cell rfl, _, (bo.ext e38).cell rfl, (uBefore (h.ext e28) hI root (hK.ext KB_pos e28) kc b).mono ?_⟩⟩
  rintro _ w9 ⟨ht9, e9⟩
  obtain ⟨A9, n9, c9, B9, m9, d9, k9, rfl, ti9⟩ := ht9.ti (Ω := fun k => k = g2) (h2lt (.refl _ _))
  have e29 := e28.trans' e9
  have e39 := e38.trans' e9
  refine ⟨_, _, _, _, _, _, _, rfl, _, _, _, (bt.ext e39).cell rfl, _, (bt.ext e39).cell rfl, _, _, _, (bo.ext e39).cell rfl, _, (bo.ext e39).cell rfl, (rBefore (hT.keep (stE e29)) hs hn hf hup last (hK.ext KB_pos e29) kc b).mono ?_⟩
  rintro _ w10 ⟨en10, e10⟩
  obtain ⟨P10, p10, q10, S10, s10, t10, b10, rfl⟩ := en10.form
  have bg10 := (b8.ext e9).ext e10
  refine ⟨_, _, _, _, _, _, _, rfl, bg10.stOK (o := 0) [_, _] 0 (by simp), fun w11 hw11 => ?_⟩
  obtain ⟨b11, f11⟩ := wr bg10 hw11
  have e210 := e29.trans' e10
  have e211 := exw e210 f11
  have bt11 := exg ((bt.ext e39).ext e10) gtl f11
  have bo11 := exg ((bo.ext e39).ext e10) gol f11
  refine ⟨_, _, _, b11.cell rfl, _, _, _, b11.cell rfl, (is_spec ((ti9.ext e10).keep (st1 f11)) c9 d9 (en10.keep (st2 f11))).mono ?_⟩
  rintro _ w12 ⟨rfl, e12⟩
  have e212 := e211.trans' e12
  have bt12 := bt11.ext e12
  have bo12 := bo11.ext e12
  have b12 := b11.ext e12
  have e812 : w8.heap.size ≤ w12.heap.size := by have := e9.size; have := e10.size; have := f11.size; have := e12.size; omega
  refine ⟨_, rfl, brnb (fun h => by cases h) fun _ => (uLast (h.ext e212) hI root).mono ?_⟩
  rintro _ w13 ⟨ht13, e13⟩
  obtain ⟨A13, n13, c13, B13, m13, d13, k13, rfl, ti13⟩ := ht13.ti (Ω := fun k => k = g2) (fun k hk => by have := b12.lt; omega)
  have e213 := e212.trans' e13
  have bt13 := bt12.ext e13
  have bo13 := bo12.ext e13
  have b13 := b12.ext e13
  refine ⟨_, _, _, _, _, _, _, rfl, fun x u => x = ((lenO (gF (foD Ds) root) : Nat) : Int) ∧ u = w13, ?_, ?_⟩
  · rintro _ _ ⟨rfl, rfl⟩
    have hlo : lenO (gF (foD Ds) root) ≤ n := by
      cases hg : gF (foD Ds) root with
      | none => exact Nat.zero_le _
      | some es =>
        rcases hf.cases with ⟨_, h1, _⟩ | ⟨j, es', _, h1, h2⟩
        · rw [hg] at h1; cases h1
        · rw [hg] at h2; cases h2; exact hs.es _ (List.mem_of_getElem? h1)
    have hw : IntKind.i64.wrap (((lenO (gF (foD Ds) root) : Nat) : Int) - 1) = ((lenO (gF (foD Ds) root) : Nat) : Int) - 1 := wi _ (by omega) (by omega)
    refine ⟨_, _, _, bt13.cell rfl, _, bt13.cell rfl, ?_⟩
    rw [hw]
    refine (rEntry (hT.keep (stE e213)) hf last _).mono ?_
    rintro _ w14 ⟨en14, e14⟩
    have hlast : ((gF (foD Ds) root).bind fun es => if ((lenO (gF (foD Ds) root) : Nat) : Int) - 1 < 0 then none else es[(((lenO (gF (foD Ds) root) : Nat) : Int) - 1).toNat]?) = (gF (foD Ds) root).bind fun es => es.getLast? := by
      cases hg : gF (foD Ds) root with
      | none => rfl
      | some es =>
        show (if ((es.length : Nat) : Int) - 1 < 0 then none else es[(((es.length : Nat) : Int) - 1).toNat]?) = es.getLast?
        cases es with
        | nil => rfl
        | cons p es => rw [if_neg (by simp), List.getLast?_eq_getElem?]; congr 1; simp
    rw [hlast] at en14
    obtain ⟨P14, p14, q14, S14, s14, t14, b14, rfl⟩ := en14.form
    have bg14 := b13.ext e14
    refine ⟨_, _, _, _, _, _, _, rfl, bg14.stOK (o := 0) [_, _] 0 (by simp), fun w15 hw15 => ?_⟩
    obtain ⟨b15, f15⟩ := wr bg14 hw15
    have e215 := exw (e213.trans' e14) f15
    have bt15 := exg (bt13.ext e14) gtl f15
    have bo15 := exg (bo13.ext e14) gol f15
    refine ⟨_, _, _, b15.cell rfl, _, _, _, b15.cell rfl, (is_spec ((ti13.ext e14).keep (st1 f15)) c13 d13 (en14.keep (st2 f15))).mono ?_⟩
    rintro _ w16 ⟨rfl, e16⟩
    have e216 := e215.trans' e16
    refine ⟨_, rfl, brnb (fun h => by cases h) fun _ => (uLen (h.ext e216) hI root).mono ?_⟩
    rintro _ w17 ⟨rfl, e17⟩
    have e217 := e216.trans' e17
    refine ⟨_, rfl, brn (fun h => absurd rfl h) fun _ => (uDeep (h.ext e217) hI root).mono ?_⟩
    rintro _ w18 ⟨rfl, e18⟩
    have e218 := e217.trans' e18
    have hdeep : decide (0 < (dp A root : Int)) = decide (0 ≤ i) := by
      have h1 := (dp_pos hI root).1
      rcases hf.cases with ⟨rfl, h2, _⟩ | ⟨j, es', rfl, _, h2⟩
      · rw [h2] at h1; simp at h1; rw [h1]; rfl
      · rw [h2] at h1; simp at h1; rw [decide_eq_true (by omega), decide_eq_true (by omega)]
    have bt18 := ((bt15.ext e16).ext e17).ext e18
    have bo18 := ((bo15.ext e16).ext e17).ext e18
    have b18 := ((b15.ext e16).ext e17).ext e18
    refine ⟨_, rfl, brn (fun h => absurd hdeep h) fun _ => ⟨_, _, _, bo18.cell rfl, (uGet (h.ext e218) hI root (hK.ext KB_pos e218) kc).mono ?_⟩⟩
    rintro _ w19 ⟨e19, hg19⟩
    have e219 := e218.trans' e19
    have bt19 := bt18.ext e19
    have bo19 := bo18.ext e19
    have b19 := b18.ext e19
    have hga : match (gF (foD Ds) root).bind (aftE key true) with | none => (gF (foD Ds) root).bind (getE key) = none | some (k, v) => if k = key then (gF (foD Ds) root).bind (getE key) = some v else (gF (foD Ds) root).bind (getE key) = none := by
      cases hg : gF (foD Ds) root with
      | none => rfl
      | some es => exact get_aft (hup es hg) key
    have aft : ∀ {u : World}, Ext w19 u → CallsV Try.prog 67 #[trV TA tc (foD Ds) last, .int .i64 i, .slice KA key.length kc, .bool true] u fun v w' => EnR Ω2 w' ((gF (foD Ds) root).bind (aftE key true)) v ∧ Ext u w' := fun {u} e => rAfter (hT.keep (stE (e219.trans' e))) hs hn hf hup last (hK.ext KB_pos (e219.trans' e)) kc true
    generalize (gF (foD Ds) root).bind (aftE key true) = ao at hga aft
    generalize (gF (foD Ds) root).bind (getE key) = go' at hga hg19
    cases go' with
    | none =>
      cases hg19
      refine ⟨_, _, _, _, rfl, _, _, _, bt19.cell rfl, _, bt19.cell rfl, _, _, _, bo19.cell rfl, (aft (.refl _ _)).mono ?_⟩
      rintro _ w20 ⟨en20, e20⟩
      obtain ⟨P20, p20, q20, S20, s20, t20, b20, rfl⟩ := en20.form
      have bg20 := b19.ext e20
      refine ⟨_, _, _, _, _, _, _, rfl, bg20.stOK (o := 0) [_, _] 0 (by simp), fun w21 hw21 => ?_⟩
      obtain ⟨b21, f21⟩ := wr bg20 hw21
      have e221 := exw (e219.trans' e20) f21
      have bo21 := exg (bo19.ext e20) gol f21
      have en21 := en20.keep (st2 f21)
      cases ao with
      | none =>
        cases en21
        exact br (fun h => by cases h) fun _ => brnb (fun _ => ⟨rfl, e221⟩) fun h => by cases h
      | some p =>
        obtain ⟨k, v⟩ := p
        have hne : k ≠ key := fun e => by
          have hga : if k = key then (none : Option Key) = some v else (none : Option Key) = none := hga
          rw [if_pos e] at hga; cases hga
        obtain ⟨B1, d1, B2, d2, e, l1, l2, j1, j2⟩ := en21
        simp only [Value.tuple.injEq, Array.mk.injEq, List.cons.injEq, Value.agg.injEq, Value.slice.injEq, Value.bool.injEq, and_true] at e
        obtain ⟨⟨⟨rfl, rfl, rfl⟩, rfl, rfl, rfl⟩, rfl⟩ := e
        refine br (fun _ => ⟨_, _, _, b21.cell rfl, _, _, _, bo21.cell rfl, (Cmp_spec j1 (hK.ext KB_pos e221) (by omega) _ _).mono ?_⟩) fun h => by cases h
        rintro _ w22 ⟨rfl, e22⟩
        exact ⟨_, rfl, brd (fun h => absurd (cmp_zero _ _ h) hne) fun _ => brnb (fun _ => ⟨rfl, e221.trans' e22⟩) fun h => by cases h⟩
    | some v0 =>
      obtain ⟨B19, d19, rfl, o19, nw19, l19⟩ := hg19
      have v19 : Imm KB (fun k => k = g2) w19 B19 v0 := o19.imm fun k hk e => by have e : k = g2 := e; have := nw19 k hk; have := b18.lt; omega
      refine ⟨_, _, _, _, rfl, _, _, _, bt19.cell rfl, _, bt19.cell rfl, _, _, _, bo19.cell rfl, (aft (.refl _ _)).mono ?_⟩
      rintro _ w20 ⟨en20, e20⟩
      obtain ⟨P20, p20, q20, S20, s20, t20, b20, rfl⟩ := en20.form
      have bg20 := b19.ext e20
      refine ⟨_, _, _, _, _, _, _, rfl, bg20.stOK (o := 0) [_, _] 0 (by simp), fun w21 hw21 => ?_⟩
      obtain ⟨b21, f21⟩ := wr bg20 hw21
      have e221 := exw (e219.trans' e20) f21
      have bo21 := exg (bo19.ext e20) gol f21
      have en21 := en20.keep (st2 f21)
      have v21 := (v19.ext KB_pos e20).keep KB_pos (st1 f21)
      cases ao with
      | none => exact absurd hga (by intro h; cases h)
      | some p =>
        obtain ⟨k, v⟩ := p
        have hkv : k = key ∧ v0 = v := by
          have hga : if k = key then some v0 = some v else some v0 = none := hga
          by_cases e : k = key
          · rw [if_pos e] at hga; exact ⟨e, Option.some.inj hga⟩
          · rw [if_neg e] at hga; cases hga
        obtain ⟨rfl, rfl⟩ := hkv
        obtain ⟨B1, d1, B2, d2, e, l1, l2, j1, j2⟩ := en21
        simp only [Value.tuple.injEq, Array.mk.injEq, List.cons.injEq, Value.agg.injEq, Value.slice.injEq, Value.bool.injEq, and_true] at e
        obtain ⟨⟨⟨rfl, rfl, rfl⟩, rfl, rfl, rfl⟩, rfl⟩ := e
        refine br (fun _ => ⟨_, _, _, b21.cell rfl, _, _, _, bo21.cell rfl, (Cmp_spec j1 (hK.ext KB_pos e221) (by omega) _ _).mono ?_⟩) fun h => by cases h
        rintro _ w22 ⟨rfl, e22⟩
        refine ⟨_, rfl, brd (fun _ => br (fun _ => ⟨_, _, _, (b21.ext e22).cell rfl, (SameBytes_spec (v21.ext KB_pos e22) (j2.ext KB_pos e22)).same ⟨_, rfl, by simp, e221.trans' e22⟩⟩) fun h => by cases h) fun h => absurd (cmp_self _) h⟩
  · rcases hf.cases with ⟨rfl, h1, _⟩ | ⟨j, es', rfl, h1, h2⟩
    · exact brd (fun h => by omega) fun _ => ⟨by rw [h1]; rfl, rfl⟩
    · obtain ⟨ad, E, ce, hA, c0, c1, _, _⟩ := trCell hT.1 h1
      have hj := (List.getElem?_eq_some_iff.1 h1).1
      exact brd (fun _ => ⟨_, _, _, bt13.cell rfl, ad, hA, ⟨by omega, by omega⟩, _, _, _, by rw [Int.toNat_natCast]; exact Ext.cell e213 c1, by rw [h2]; rfl, rfl⟩) fun h => by omega
end Go.Proofs.Ytadlhdiejmilmaa
/- The preconditions of Go functions, printed by a program of this workplace (nests.py); each is proved to be the engine's own. -/
set_option linter.unusedVariables false
set_option maxRecDepth 100000
namespace Go.Proofs.Ytadlhdiejmilmaa
open Go Go.Sx
noncomputable def cardindexlaw04_b.W : ByteArray → World → (Value → World → Prop) → Prop := fun (s : ByteArray) (w : World) (K : Value → World → Prop) => ∃ (x : Option Addr), ∃ (x_1 : Nat),
 ∃ (x_2 : Nat), ∃ (w' : World), RunsTo Try.prog (convert (9 : Nat) (36 : Nat) (Value.string s)) w (Value.slice x x_1 x_2) w' ∧ K (Value.slice x x_1 x_2) w'
theorem cardindexlaw04_b.eq (s : ByteArray) (w : World) (K : Value → World → Prop) : cardindexlaw04_b.W s w K = fnW Try.prog Try.f54 (.named .auto) [.string s] w K := by kernel_rfl
theorem cardindexlaw04_b.calls (ok : Okay Try.prog) {s : ByteArray} {w : World} {K : Value → World → Prop} (h : cardindexlaw04_b.W s w K) : CallsV Try.prog 54 #[.string s] w K :=
  fnW_calls ok Try.func54 (an := (.named .auto)) (args := [.string s]) (by rw [← cardindexlaw04_b.eq]; exact h)
noncomputable def cardindexlaw04_tells.W : Option Addr → Nat → Nat → Option Addr → Nat → Nat → Bool → ByteArray → ByteArray → World → (Value → World → Prop) → Prop := fun (k_A : Option Addr) (k_n
 k_c : Nat) (v_A : Option Addr) (v_n v_c : Nat) (okx : Bool) (key val : ByteArray) (w : World) (K : Value → World → Prop) => bif Decidable.decide (okx = !ByteArray.toList key ==
 ByteArray.toList (ByteArray.mk #[])) then ∃ (x : ByteArray), ∃ (w' : World), RunsTo Try.prog (convert (36 : Nat) (9 : Nat) (Value.slice k_A k_n k_c)) w (Value.string x) w' ∧
 bif ByteArray.toList x == ByteArray.toList key then ∃ (x : ByteArray), ∃ (w'_1 : World), RunsTo Try.prog (convert (36 : Nat) (9 : Nat) (Value.slice v_A v_n v_c)) w'
 (Value.string x) w'_1 ∧ K (Value.bool (ByteArray.toList x == ByteArray.toList val)) w'_1 else K (Value.bool Bool.false) w' else K (Value.bool Bool.false) w
theorem cardindexlaw04_tells.eq (k_A : Option Addr) (k_n : Nat) (k_c : Nat) (v_A : Option Addr) (v_n : Nat) (v_c : Nat) (okx : Bool) (key : ByteArray) (val : ByteArray) (w : World) (K : Value → World → Prop) : cardindexlaw04_tells.W k_A k_n k_c v_A v_n v_c okx key val w K = fnW Try.prog Try.f55 (.named .auto) [.slice k_A k_n k_c, .slice v_A v_n v_c, .bool okx, .string key, .string val] w K := by kernel_rfl
theorem cardindexlaw04_tells.calls (ok : Okay Try.prog) {k_A : Option Addr} {k_n : Nat} {k_c : Nat} {v_A : Option Addr} {v_n : Nat} {v_c : Nat} {okx : Bool} {key : ByteArray} {val : ByteArray} {w : World} {K : Value → World → Prop} (h : cardindexlaw04_tells.W k_A k_n k_c v_A v_n v_c okx key val w K) : CallsV Try.prog 55 #[.slice k_A k_n k_c, .slice v_A v_n v_c, .bool okx, .string key, .string val] w K :=
  fnW_calls ok Try.func55 (an := (.named .auto)) (args := [.slice k_A k_n k_c, .slice v_A v_n v_c, .bool okx, .string key, .string val]) (by rw [← cardindexlaw04_tells.eq]; exact h)
noncomputable def cardindexlaw04_awake.W : World → (Value → World → Prop) → Prop := fun (w : World) (K : Value → World → Prop) => CallsV Try.prog (13 : Nat) #[Value.int
 IntKind.i64 (4 : Int), Value.int IntKind.i64 (10 : Int)] w fun (v : Value) (w' : World) => ∃ (x : Option Addr), ∃ (x_1 : Int), v = Value.tuple #[Value.pointer x, Value.int
 IntKind.i64 x_1] ∧ CallsV Try.prog (14 : Nat) #[Value.pointer x] w' fun (v : Value) (w' : World) => ∃ (x_2 : Int), ∃ (x_3 : Int), v = Value.tuple #[Value.int
 IntKind.i64 x_2, Value.int IntKind.i64 x_3] ∧ bif !Decidable.decide (x_1 = (0 : Int)) then K (Value.bool Bool.false) w' else bif !Decidable.decide (x_3 = (0 : Int)) then K (Value.bool
 Bool.false) w' else bif !Decidable.decide (x_2 = (1 : Int)) then K (Value.bool Bool.false) w' else CallsV Try.prog (54 : Nat) #[Value.string (ByteArray.mk #[(98 : UInt8)])] w' fun
 (v : Value) (w' : World) => ∃ (x_4 : Option Addr), ∃ (x_5 : Nat), ∃ (x_6 : Nat), v = Value.slice x_4 x_5 x_6 ∧ CallsV Try.prog (54 : Nat) #[Value.string (ByteArray.mk
 #[(50 : UInt8)])] w' fun (v : Value) (w' : World) => ∃ (x_7 : Option Addr), ∃ (x_8 : Nat), ∃ (x_9 : Nat), v = Value.slice x_7 x_8 x_9 ∧ CallsV Try.prog (17 : Nat)
 #[Value.pointer x, Value.int IntKind.i64 (1 : Int), Value.slice x_4 x_5 x_6, Value.slice x_7 x_8 x_9] w' fun (v : Value) (w' : World) => ∃ (x_10 : Bool), ∃ (x_11 : Int), v =
 Value.tuple #[Value.bool x_10, Value.int IntKind.i64 x_11] ∧ CallsV Try.prog (54 : Nat) #[Value.string (ByteArray.mk #[(97 : UInt8)])] w' fun (v : Value) (w' :
 World) => ∃ (x_12 : Option Addr), ∃ (x_13 : Nat), ∃ (x_14 : Nat), v = Value.slice x_12 x_13 x_14 ∧ CallsV Try.prog (54 : Nat) #[Value.string (ByteArray.mk #[(49 : UInt8)])]
 w' fun (v : Value) (w' : World) => ∃ (x_15 : Option Addr), ∃ (x_16 : Nat), ∃ (x_17 : Nat), v = Value.slice x_15 x_16 x_17 ∧ CallsV Try.prog (17 : Nat) #[Value.pointer x,
 Value.int IntKind.i64 (1 : Int), Value.slice x_12 x_13 x_14, Value.slice x_15 x_16 x_17] w' fun (v : Value) (w' : World) => ∃ (x_18 : Bool), ∃ (x_19 : Int), v = Value.tuple
 #[Value.bool x_18, Value.int IntKind.i64 x_19] ∧ CallsV Try.prog (54 : Nat) #[Value.string (ByteArray.mk #[(97 : UInt8)])] w' fun (v : Value) (w' : World) => ∃ (x_20 :
 Option Addr), ∃ (x_21 : Nat), ∃ (x_22 : Nat), v = Value.slice x_20 x_21 x_22 ∧ CallsV Try.prog (54 : Nat) #[Value.string (ByteArray.mk #[(51 : UInt8)])] w' fun (v : Value)
 (w' : World) => ∃ (x_23 : Option Addr), ∃ (x_24 : Nat), ∃ (x_25 : Nat), v = Value.slice x_23 x_24 x_25 ∧ CallsV Try.prog (17 : Nat) #[Value.pointer x, Value.int
 IntKind.i64 (1 : Int), Value.slice x_20 x_21 x_22, Value.slice x_23 x_24 x_25] w' fun (v : Value) (w' : World) => ∃ (x_26 : Bool), ∃ (x_27 : Int), v = Value.tuple #[Value.bool
 x_26, Value.int IntKind.i64 x_27] ∧ bif !Decidable.decide (IntKind.wrap IntKind.i64 (IntKind.wrap IntKind.i64 (x_11 + x_19) + x_27) = (0 : Int)) then K (Value.bool Bool.false) w'
 else bif x_10 then K (Value.bool Bool.false) w' else bif x_18 then K (Value.bool Bool.false) w' else bif !x_26 then K (Value.bool Bool.false) w' else CallsV Try.prog (54 : Nat)
 #[Value.string (ByteArray.mk #[(97 : UInt8)])] w' fun (v : Value) (w' : World) => ∃ (x_28 : Option Addr), ∃ (x_29 : Nat), ∃ (x_30 : Nat), v = Value.slice x_28 x_29 x_30 ∧ CallsV
 Try.prog (24 : Nat) #[Value.pointer x, Value.int IntKind.i64 (1 : Int), Value.slice x_28 x_29 x_30, Value.bool Bool.false] w' fun (v : Value) (w' : World) => ∃ (x_31 :
 Option Addr), ∃ (x_32 : Nat), ∃ (x_33 : Nat), ∃ (x_34 : Option Addr), ∃ (x_35 : Nat), ∃ (x_36 : Nat), ∃ (x_37 : Bool), v = Value.tuple #[Value.slice x_31 x_32 x_33, Value.slice x_34 x_35
 x_36, Value.bool x_37] ∧ CallsV Try.prog (54 : Nat) #[Value.string (ByteArray.mk #[(97 : UInt8)])] w' fun (v : Value) (w' : World) => ∃ (x_38 : Option Addr), ∃ (x_39 :
 Nat), ∃ (x_40 : Nat), v = Value.slice x_38 x_39 x_40 ∧ CallsV Try.prog (24 : Nat) #[Value.pointer x, Value.int IntKind.i64 (1 : Int), Value.slice x_38 x_39 x_40,
 Value.bool Bool.true] w' fun (v : Value) (w' : World) => ∃ (x_41 : Option Addr), ∃ (x_42 : Nat), ∃ (x_43 : Nat), ∃ (x_44 : Option Addr), ∃ (x_45 : Nat), ∃ (x_46 : Nat), ∃ (x_47 : Bool),
 v = Value.tuple #[Value.slice x_41 x_42 x_43, Value.slice x_44 x_45 x_46, Value.bool x_47] ∧ CallsV Try.prog (54 : Nat) #[Value.string (ByteArray.mk #[(97 : UInt8)])] w'
 fun (v : Value) (w' : World) => ∃ (x_48 : Option Addr), ∃ (x_49 : Nat), ∃ (x_50 : Nat), v = Value.slice x_48 x_49 x_50 ∧ CallsV Try.prog (33 : Nat) #[Value.pointer x,
 Value.int IntKind.i64 (1 : Int), Value.slice x_48 x_49 x_50, Value.bool Bool.false] w' fun (v : Value) (w' : World) => ∃ (x_51 : Option Addr), ∃ (x_52 : Nat), ∃ (x_53 : Nat), ∃
 (x_54 : Option Addr), ∃ (x_55 : Nat), ∃ (x_56 : Nat), ∃ (x_57 : Bool), v = Value.tuple #[Value.slice x_51 x_52 x_53, Value.slice x_54 x_55 x_56, Value.bool x_57] ∧ CallsV
 Try.prog (55 : Nat) #[Value.slice x_31 x_32 x_33, Value.slice x_34 x_35 x_36, Value.bool x_37, Value.string (ByteArray.mk #[(98 : UInt8)]), Value.string (ByteArray.mk #[(50 :
 UInt8)])] w' fun (v : Value) (w' : World) => ∃ (x_58 : Bool), v = Value.bool x_58 ∧ bif !x_58 then K (Value.bool Bool.false) w' else CallsV Try.prog (55 : Nat)
 #[Value.slice x_41 x_42 x_43, Value.slice x_44 x_45 x_46, Value.bool x_47, Value.string (ByteArray.mk #[(97 : UInt8)]), Value.string (ByteArray.mk #[(51 : UInt8)])] w' fun (v : Value)
 (w' : World) => ∃ (x_59 : Bool), v = Value.bool x_59 ∧ bif !x_59 then K (Value.bool Bool.false) w' else CallsV Try.prog (55 : Nat) #[Value.slice x_51 x_52 x_53,
 Value.slice x_54 x_55 x_56, Value.bool x_57, Value.string (ByteArray.mk #[]), Value.string (ByteArray.mk #[])] w' fun (v : Value) (w' : World) => ∃ (x_60 : Bool), v = Value.bool
 x_60 ∧ bif !x_60 then K (Value.bool Bool.false) w' else ∀ (g : Nat) (w'_1 : World), Fresh w' g w'_1 [Value.string (ByteArray.mk #[(99 : UInt8)]), Value.string (ByteArray.mk #[(100 :
 UInt8)]), Value.string (ByteArray.mk #[(101 : UInt8)])] (9 : Nat) → ∃ (I : Int → World → Prop), ∃ (μ : Int → World → Nat), I (0 : Int) w'_1 ∧ ∀ (x_61 : Int) (w : World), I x_61 w → bif
 Decidable.decide (x_61 < (↑(3 : Nat) : Int)) then ∃ (ad : Addr), Option.some (Addr.mk g (0 : Nat) Option.none) = Option.some ad ∧ ((0 : Int) ≤ x_61 ∧ x_61 < (↑(3 : Nat) : Int)) ∧ ∃ (x_62 :
 ByteArray), World.cell? w (Addr.add ad (Int.toNat x_61 * (1 : Nat))) = Option.some (Value.string x_62) ∧ CallsV Try.prog (54 : Nat) #[Value.string x_62] w fun (v : Value)
 (w' : World) => ∃ (x_63 : Option Addr), ∃ (x_64 : Nat), ∃ (x_65 : Nat), v = Value.slice x_63 x_64 x_65 ∧ CallsV Try.prog (17 : Nat) #[Value.pointer x, Value.int
 IntKind.i64 (1 : Int), Value.slice x_63 x_64 x_65, Value.slice Option.none (0 : Nat) (0 : Nat)] w' fun (v : Value) (w' : World) => ∃ (x : Bool), ∃ (x_66 : Int), v = Value.tuple
 #[Value.bool x, Value.int IntKind.i64 x_66] ∧ I (IntKind.wrap IntKind.i64 (x_61 + (1 : Int))) w' ∧ μ (IntKind.wrap IntKind.i64 (x_61 + (1 : Int))) w' < μ x_61 w else CallsV
 Try.prog (28 : Nat) #[Value.pointer x, Value.int IntKind.i64 (1 : Int)] w fun (v : Value) (w' : World) => ∃ (x_62 : Int), v = Value.int IntKind.i64 x_62 ∧ bif
 Decidable.decide (x_62 = (5 : Int)) then CallsV Try.prog (16 : Nat) #[Value.pointer x, Value.int IntKind.i64 (1 : Int)] w' fun (v : Value) (w' : World) => ∃ (x_63 : Int),
 v = Value.int IntKind.i64 x_63 ∧ bif Decidable.decide (x_63 = (2 : Int)) then CallsV Try.prog (15 : Nat) #[Value.pointer x] w' fun (v : Value) (w' : World) => ∃ (x_64 :
 Int), v = Value.int IntKind.i64 x_64 ∧ bif Decidable.decide (x_64 = (3 : Int)) then CallsV Try.prog (19 : Nat) #[Value.pointer x] w' fun (v : Value) (w' : World) => ∃ (x
 : Int), v = Value.int IntKind.i64 x ∧ K (Value.bool (Decidable.decide (x = (0 : Int)))) w' else K (Value.bool Bool.false) w' else K (Value.bool Bool.false) w' else K (Value.bool
 Bool.false) w'
theorem cardindexlaw04_awake.eq  (w : World) (K : Value → World → Prop) : cardindexlaw04_awake.W  w K = fnW Try.prog Try.f21 (.named (.seq .auto (.seq .auto (.seq .auto (.seq .auto (.seq .auto (.seq .auto (.seq .auto (.seq .auto (.seq .auto (.seq .auto (.seq .auto (.seq .auto (.seq (.seq .auto (.block (.loop [(120, .one (.int .i64))] .auto))) .auto)))))))))))))) [] w K := by kernel_rfl
theorem cardindexlaw04_awake.calls (ok : Okay Try.prog)  {w : World} {K : Value → World → Prop} (h : cardindexlaw04_awake.W  w K) : CallsV Try.prog 21 #[] w K :=
  fnW_calls ok Try.func21 (an := (.named (.seq .auto (.seq .auto (.seq .auto (.seq .auto (.seq .auto (.seq .auto (.seq .auto (.seq .auto (.seq .auto (.seq .auto (.seq .auto (.seq .auto (.seq (.seq .auto (.block (.loop [(120, .one (.int .i64))] .auto))) .auto))))))))))))))) (args := []) (by rw [← cardindexlaw04_awake.eq]; exact h)
noncomputable def cardindexlaw04_key.W : Int → World → (Value → World → Prop) → Prop := fun (n : Int) (w : World) (K : Value → World → Prop) => (0 : Int) ≤ (8 : Int) ∧ ∀ (g : Nat) (w' :
 World), Fresh w g w' [Value.int IntKind.u8 (IntKind.wrap IntKind.u8 (Int.fdiv n ((2 : Int) ^ Min.min (Int.toNat (8 : Int)) (64 : Nat)))), Value.int IntKind.u8
 (IntKind.wrap IntKind.u8 n)] (5 : Nat) → K (Value.slice (Option.some (Addr.mk g (0 : Nat) Option.none)) (2 : Nat) (2 : Nat)) w'
theorem cardindexlaw04_key.eq (n : Int) (w : World) (K : Value → World → Prop) : cardindexlaw04_key.W n w K = fnW Try.prog Try.f18 (.named .auto) [.int .i64 n] w K := by kernel_rfl
theorem cardindexlaw04_key.calls (ok : Okay Try.prog) {n : Int} {w : World} {K : Value → World → Prop} (h : cardindexlaw04_key.W n w K) : CallsV Try.prog 18 #[.int .i64 n] w K :=
  fnW_calls ok Try.func18 (an := (.named .auto)) (args := [.int .i64 n]) (by rw [← cardindexlaw04_key.eq]; exact h)
noncomputable def cardindexlaw04_walks.W : Option Addr → Option Nat → World → (Value → World → Prop) → Prop := fun (a : Option Addr) (there : Option Nat) (w : World) (K : Value → World →
 Prop) => CallsV Try.prog (28 : Nat) #[Value.pointer a, Value.int IntKind.i64 (1 : Int)] w fun (v : Value) (w' : World) => ∃ (x : Int), v = Value.int IntKind.i64 x ∧
 ∃ (x_1 : Int), ∃ (w'_1 : World), RunsTo Try.prog (Builtin.len_ (Array.mk [(30 : Nat)]) (3 : Nat) #[Value.map there]) w' (Value.int IntKind.i64 x_1) w'_1 ∧ bif
 !Decidable.decide (x = x_1) then K (Value.bool Bool.false) w'_1 else CallsV Try.prog (24 : Nat) #[Value.pointer a, Value.int IntKind.i64 (1 : Int), Value.slice
 Option.none (0 : Nat) (0 : Nat), Value.bool Bool.true] w'_1 fun (v : Value) (w' : World) => ∃ (x : Option Addr), ∃ (x_2 : Nat), ∃ (x_3 : Nat), ∃ (x_4 : Option Addr), ∃ (x_5 : Nat), ∃
 (x_6 : Nat), ∃ (x_7 : Bool), v = Value.tuple #[Value.slice x x_2 x_3, Value.slice x_4 x_5 x_6, Value.bool x_7] ∧ ∃ (I : Option Addr → Nat → Nat → Int → Option Addr → Nat → Nat →
 Option Addr → Nat → Nat → Bool → World → Prop), ∃ (μ : Option Addr → Nat → Nat → Int → Option Addr → Nat → Nat → Option Addr → Nat → Nat → Bool → World → Nat), I Option.none (0 : Nat)
 (0 : Nat) (0 : Int) x x_2 x_3 x_4 x_5 x_6 x_7 w' ∧ ∀ (x : Option Addr) (x_8 x_9 : Nat) (x_10 : Int) (x_11 : Option Addr) (x_12 x_13 : Nat) (x_14 : Option Addr) (x_15 x_16 : Nat) (x_17 : Bool)
 (w : World), I x x_8 x_9 x_10 x_11 x_12 x_13 x_14 x_15 x_16 x_17 w → bif x_17 then ∃ (J : World → Prop), (∀ (w_1 : World), J w_1 → ∃ (ad : Addr), x_11 = Option.some ad ∧ ((0 : Int) ≤ (0 :
 Int) ∧ (0 : Int) < (↑x_12 : Int)) ∧ ∃ (S : World → Prop), S (World.drew w_1) ∧ ∃ (x_18 : Int), (∀ (u : World), S u → World.cell? u (Addr.add ad (Int.toNat (0 : Int) * (1 : Nat))) =
 Option.some (Value.int IntKind.u8 x_18)) ∧ ∃ (ad : Addr), x_11 = Option.some ad ∧ ((0 : Int) ≤ (1 : Int) ∧ (1 : Int) < (↑x_12 : Int)) ∧ ∃ (x_19 : Int), (∀ (u : World), S u → World.cell?
 u (Addr.add ad (Int.toNat (1 : Int) * (1 : Nat))) = Option.some (Value.int IntKind.u8 x_19)) ∧ ∃ (x_20 : Int), ∃ (x_21 : Bool), ∃ (w' : World), RunsTo Try.prog
 (Instr.lookup (30 : Nat) (Value.map there) (Value.int IntKind.i64 (IntKind.wrap IntKind.i64 (IntKind.wrap IntKind.i64 ((256 : Int) * IntKind.wrap IntKind.i64 x_18) +
 IntKind.wrap IntKind.i64 x_19))) Bool.true) (World.drew w_1) (Value.tuple #[Value.int IntKind.i64 x_20, Value.bool x_21]) w' ∧ S w' ∧ bif !x_21 then K (Value.bool Bool.false) w'
 else CallsV Try.prog (18 : Nat) #[Value.int IntKind.i64 x_20] w' fun (v : Value) (w' : World) => ∃ (x_22 : Option Addr), ∃ (x_23 : Nat), ∃ (x_24 : Nat), v =
 Value.slice x_22 x_23 x_24 ∧ CallsV Try.prog (26 : Nat) #[Value.slice x_14 x_15 x_16, Value.slice x_22 x_23 x_24] w' fun (v : Value) (w' : World) => ∃ (x_25 : Bool), v =
 Value.bool x_25 ∧ bif !x_25 then K (Value.bool Bool.false) w' else CallsV Try.prog (24 : Nat) #[Value.pointer a, Value.int IntKind.i64 (1 : Int), Value.slice x_11 x_12
 x_13, Value.bool Bool.false] w' fun (v : Value) (w' : World) => ∃ (x_26 : Option Addr), ∃ (x_27 : Nat), ∃ (x_28 : Nat), ∃ (x_29 : Option Addr), ∃ (x_30 : Nat), ∃ (x_31 : Nat), ∃ (x_32 :
 Bool), v = Value.tuple #[Value.slice x_26 x_27 x_28, Value.slice x_29 x_30 x_31, Value.bool x_32] ∧ I x_11 x_12 x_13 (IntKind.wrap IntKind.i64 (x_10 + (1 : Int))) x_26 x_27 x_28 x_29
 x_30 x_31 x_32 w' ∧ μ x_11 x_12 x_13 (IntKind.wrap IntKind.i64 (x_10 + (1 : Int))) x_26 x_27 x_28 x_29 x_30 x_31 x_32 w' < μ x x_8 x_9 x_10 x_11 x_12 x_13 x_14 x_15 x_16 x_17 w) ∧ bif
 !Decidable.decide ((↑x_12 : Int) = (2 : Int)) then K (Value.bool Bool.false) w else bif Decidable.decide ((0 : Int) < x_10) then ∃ (x_18 : ByteArray), ∃ (w' : World), RunsTo
 Try.prog (convert (36 : Nat) (9 : Nat) (Value.slice x_11 x_12 x_13)) w (Value.string x_18) w' ∧ ∃ (x_19 : ByteArray), ∃ (w'_2 : World), RunsTo Try.prog (convert
 (36 : Nat) (9 : Nat) (Value.slice x x_8 x_9)) w' (Value.string x_19) w'_2 ∧ bif Op.bytesLess (ByteArray.toList x_18) (ByteArray.toList x_19) || ByteArray.toList x_18 == ByteArray.toList x_19
 then K (Value.bool Bool.false) w'_2 else J w'_2 else J w else ∃ (x_18 : Int), ∃ (w' : World), RunsTo Try.prog (Builtin.len_ (Array.mk [(30 : Nat)]) (3 : Nat) #[Value.map
 there]) w (Value.int IntKind.i64 x_18) w' ∧ bif !Decidable.decide (x_10 = x_18) then K (Value.bool Bool.false) w' else CallsV Try.prog (25 : Nat) #[Value.pointer a,
 Value.int IntKind.i64 (1 : Int)] w' fun (v : Value) (w' : World) => ∃ (x_19 : Option Addr), ∃ (x_20 : Nat), ∃ (x_21 : Nat), ∃ (x_22 : Option Addr), ∃ (x_23 : Nat), ∃ (x_24 : Nat), ∃
 (x_25 : Bool), v = Value.tuple #[Value.slice x_19 x_20 x_21, Value.slice x_22 x_23 x_24, Value.bool x_25] ∧ ∃ (I : Option Addr → Nat → Nat → Int → Option Addr → Nat → Nat → Bool →
 World → Prop), ∃ (μ : Option Addr → Nat → Nat → Int → Option Addr → Nat → Nat → Bool → World → Nat), I x x_8 x_9 x_10 x_19 x_20 x_21 x_25 w' ∧ ∀ (x : Option Addr) (x_26 x_27 : Nat) (x_28
 : Int) (x_29 : Option Addr) (x_30 x_31 : Nat) (x_32 : Bool) (w : World), I x x_26 x_27 x_28 x_29 x_30 x_31 x_32 w → bif x_32 then CallsV Try.prog (26 : Nat) #[Value.slice x_29
 x_30 x_31, Value.slice x x_26 x_27] w fun (v : Value) (w' : World) => ∃ (x_33 : Bool), v = Value.bool x_33 ∧ bif !x_33 then K (Value.bool Bool.false) w' else CallsV
 Try.prog (33 : Nat) #[Value.pointer a, Value.int IntKind.i64 (1 : Int), Value.slice x_29 x_30 x_31, Value.bool Bool.false] w' fun (v : Value) (w' : World) => ∃ (x_34 :
 Option Addr), ∃ (x_35 : Nat), ∃ (x_36 : Nat), ∃ (x_37 : Option Addr), ∃ (x_38 : Nat), ∃ (x_39 : Nat), ∃ (x_40 : Bool), v = Value.tuple #[Value.slice x_34 x_35 x_36, Value.slice x_37 x_38
 x_39, Value.bool x_40] ∧ CallsV Try.prog (33 : Nat) #[Value.pointer a, Value.int IntKind.i64 (1 : Int), Value.slice x_29 x_30 x_31, Value.bool Bool.false] w' fun (v :
 Value) (w' : World) => ∃ (x_41 : Option Addr), ∃ (x_42 : Nat), ∃ (x_43 : Nat), ∃ (x_44 : Option Addr), ∃ (x_45 : Nat), ∃ (x_46 : Nat), ∃ (x_47 : Bool), v = Value.tuple #[Value.slice
 x_41 x_42 x_43, Value.slice x_44 x_45 x_46, Value.bool x_47] ∧ I x_34 x_35 x_36 (IntKind.wrap IntKind.i64 (x_28 - (1 : Int))) x_41 x_42 x_43 x_47 w' ∧ μ x_34 x_35 x_36 (IntKind.wrap
 IntKind.i64 (x_28 - (1 : Int))) x_41 x_42 x_43 x_47 w' < μ x x_26 x_27 x_28 x_29 x_30 x_31 x_32 w else K (Value.bool (Decidable.decide (x_28 = (0 : Int)))) w
theorem cardindexlaw04_walks.eq (a : Option Addr) (there : Option Nat) (w : World) (K : Value → World → Prop) : cardindexlaw04_walks.W a there w K = fnW Try.prog Try.f20 (.named (.seq .auto (.seq .auto (.seq .auto (.seq .auto (.seq .auto (.seq (.block (.loop [(5, .one .slc), (6, .one (.int .i64)), (7, .one .slc), (8, .one .slc), (9, .one .bool)] (.seq .auto (.seq (.block (.join [] .auto .auto)) .auto)))) (.seq .auto (.seq .auto (.seq (.block (.loop [(5, .one .slc), (6, .one (.int .i64)), (7, .one .slc), (9, .one .bool)] .auto)) .auto)))))))))) [.pointer a, .map there] w K := by kernel_rfl
theorem cardindexlaw04_walks.calls (ok : Okay Try.prog) {a : Option Addr} {there : Option Nat} {w : World} {K : Value → World → Prop} (h : cardindexlaw04_walks.W a there w K) : CallsV Try.prog 20 #[.pointer a, .map there] w K :=
  fnW_calls ok Try.func20 (an := (.named (.seq .auto (.seq .auto (.seq .auto (.seq .auto (.seq .auto (.seq (.block (.loop [(5, .one .slc), (6, .one (.int .i64)), (7, .one .slc), (8, .one .slc), (9, .one .bool)] (.seq .auto (.seq (.block (.join [] .auto .auto)) .auto)))) (.seq .auto (.seq .auto (.seq (.block (.loop [(5, .one .slc), (6, .one (.int .i64)), (7, .one .slc), (9, .one .bool)] .auto)) .auto))))))))))) (args := [.pointer a, .map there]) (by rw [← cardindexlaw04_walks.eq]; exact h)
noncomputable def cardindexlaw04_grown.W : Int → Option Addr → Nat → Nat → World → (Value → World → Prop) → Prop := fun (fan : Int) (l_A : Option Addr) (l_n l_c : Nat) (w : World) (K : Value →
 World → Prop) => CallsV Try.prog (12 : Nat) #[Value.int IntKind.i64 fan, Value.int IntKind.i64 (61 : Int)] w fun (v : Value) (w' : World) => ∃ (x : Int), v =
 Value.int IntKind.i64 x ∧ CallsV Try.prog (13 : Nat) #[Value.int IntKind.i64 (IntKind.wrap IntKind.i64 ((4 : Int) + x)), Value.int IntKind.i64 (65536 : Int)] w'
 fun (v : Value) (w' : World) => ∃ (x : Option Addr), ∃ (x_1 : Int), v = Value.tuple #[Value.pointer x, Value.int IntKind.i64 x_1] ∧ CallsV Try.prog (14 : Nat)
 #[Value.pointer x] w' fun (v : Value) (w' : World) => ∃ (x_2 : Int), ∃ (x_3 : Int), v = Value.tuple #[Value.int IntKind.i64 x_2, Value.int IntKind.i64 x_3] ∧ ∃ (x_4 : Option
 Nat), ∃ (w'_1 : World), RunsTo Try.prog (Instr.makeMap (30 : Nat) Option.none) w' (Value.map x_4) w'_1 ∧ bif !Decidable.decide (x_1 = (0 : Int)) then K (Value.tuple
 #[Value.pointer x, Value.map x_4, Value.bool Bool.false]) w'_1 else bif !Decidable.decide (x_3 = (0 : Int)) then K (Value.tuple #[Value.pointer x, Value.map x_4, Value.bool
 Bool.false]) w'_1 else bif !Decidable.decide (x_2 = (1 : Int)) then K (Value.tuple #[Value.pointer x, Value.map x_4, Value.bool Bool.false]) w'_1 else ∃ (I : Int → World → Prop), ∃ (μ :
 Int → World → Nat), I (0 : Int) w'_1 ∧ ∀ (x_5 : Int) (w : World), I x_5 w → bif Decidable.decide (x_5 < (↑l_n : Int)) then bif Decidable.decide (x_5 < (300 : Int)) then ∃ (ad : Addr), l_A =
 Option.some ad ∧ ((0 : Int) ≤ x_5 ∧ x_5 < (↑l_n : Int)) ∧ ∃ (x_6 : Int), World.cell? w (Addr.add ad (Int.toNat x_5 * (1 : Nat))) = Option.some (Value.int IntKind.i64 x_6) ∧ CallsV
 Try.prog (12 : Nat) #[Value.int IntKind.i64 x_6, Value.int IntKind.i64 (1000 : Int)] w fun (v : Value) (w' : World) => ∃ (x_7 : Int), v = Value.int IntKind.i64 x_7 ∧
 CallsV Try.prog (18 : Nat) #[Value.int IntKind.i64 x_7] w' fun (v : Value) (w' : World) => ∃ (x_8 : Option Addr), ∃ (x_9 : Nat), ∃ (x_10 : Nat), v = Value.slice x_8
 x_9 x_10 ∧ CallsV Try.prog (18 : Nat) #[Value.int IntKind.i64 x_5] w' fun (v : Value) (w' : World) => ∃ (x_11 : Option Addr), ∃ (x_12 : Nat), ∃ (x_13 : Nat), v =
 Value.slice x_11 x_12 x_13 ∧ CallsV Try.prog (17 : Nat) #[Value.pointer x, Value.int IntKind.i64 (1 : Int), Value.slice x_8 x_9 x_10, Value.slice x_11 x_12 x_13] w'
 fun (v : Value) (w' : World) => ∃ (x_14 : Bool), ∃ (x_15 : Int), v = Value.tuple #[Value.bool x_14, Value.int IntKind.i64 x_15] ∧ ∃ (x_16 : Int), ∃ (x_17 : Bool), ∃ (w'_2 : World),
 RunsTo Try.prog (Instr.lookup (30 : Nat) (Value.map x_4) (Value.int IntKind.i64 x_7) Bool.true) w' (Value.tuple #[Value.int IntKind.i64 x_16, Value.bool x_17])
 w'_2 ∧ bif !Decidable.decide (x_15 = (0 : Int)) then K (Value.tuple #[Value.pointer x, Value.map x_4, Value.bool Bool.false]) w'_2 else bif !Decidable.decide (x_14 = x_17) then K
 (Value.tuple #[Value.pointer x, Value.map x_4, Value.bool Bool.false]) w'_2 else ∃ (w' : World), RunsTo Try.prog (Instr.mapUpdate (30 : Nat) (Value.map x_4)
 (Value.int IntKind.i64 x_7) (Value.int IntKind.i64 x_5)) w'_2 () w' ∧ I (IntKind.wrap IntKind.i64 (x_5 + (1 : Int))) w' ∧ μ (IntKind.wrap IntKind.i64 (x_5 + (1 : Int))) w' < μ
 x_5 w else K (Value.tuple #[Value.pointer x, Value.map x_4, Value.bool Bool.true]) w else K (Value.tuple #[Value.pointer x, Value.map x_4, Value.bool Bool.true]) w
theorem cardindexlaw04_grown.eq (fan : Int) (l_A : Option Addr) (l_n : Nat) (l_c : Nat) (w : World) (K : Value → World → Prop) : cardindexlaw04_grown.W fan l_A l_n l_c w K = fnW Try.prog Try.f27 (.named (.seq .auto (.seq .auto (.seq .auto (.seq .auto (.seq .auto (.seq (.seq .auto (.block (.loop [(12, .one (.int .i64))] .auto))) .auto))))))) [.int .i64 fan, .slice l_A l_n l_c] w K := by kernel_rfl
theorem cardindexlaw04_grown.calls (ok : Okay Try.prog) {fan : Int} {l_A : Option Addr} {l_n : Nat} {l_c : Nat} {w : World} {K : Value → World → Prop} (h : cardindexlaw04_grown.W fan l_A l_n l_c w K) : CallsV Try.prog 27 #[.int .i64 fan, .slice l_A l_n l_c] w K :=
  fnW_calls ok Try.func27 (an := (.named (.seq .auto (.seq .auto (.seq .auto (.seq .auto (.seq .auto (.seq (.seq .auto (.block (.loop [(12, .one (.int .i64))] .auto))) .auto)))))))) (args := [.int .i64 fan, .slice l_A l_n l_c]) (by rw [← cardindexlaw04_grown.eq]; exact h)
end Go.Proofs.Ytadlhdiejmilmaa
/- Layer 4: an arena of one tree; the statements' own helpers. -/
set_option linter.unusedVariables false
set_option linter.unusedSimpArgs false
namespace Go.Proofs.Ytadlhdiejmilmaa
open Go Go.Sx T4
/-- one tree, of the number 1, H deep -/
def Sole (A : Ar) (H : Nat) (es : Es) : Prop := A.last = 1 ∧ ∃ i ps, Inv A [⟨1, i, H, es, ps⟩]
theorem Sole.f1 {A : Ar} {H : Nat} {es : Es} (h : Sole A H es) : 4 ≤ A.fan := by obtain ⟨_, i, ps, h⟩ := h; exact h.f1
theorem Sole.at_ {A : Ar} {H : Nat} {es : Es} (h : Sole A H es) : ∃ i ps Q, getT A.trees 1 = some i ∧ TreeAt A H i es ps Q ∧ A.most ≤ 65536 ∧ A.nodes ≤ A.most ∧ A.nodes = ps.length := by
  obtain ⟨_, i, ps, h⟩ := h
  have h1 := h.get (d := ⟨1, i, H, es, ps⟩) (by simp)
  have h2 := Inv.at_ (D1 := []) (D2 := []) h
  exact ⟨i, ps, _, h1, h2, h.m, h.nodes, by rw [h2.acc.nodes]; simp⟩
theorem Sole.up {A : Ar} {H : Nat} {es : Es} (h : Sole A H es) : A.nodes + 0 ≤ 1 + es.length ∧ 1 ≤ H ∧ H ≤ A.nodes ∧ (1 < H → 2 * (A.fan / 2) ^ (H - 1) ≤ es.length) := by
  obtain ⟨i, ps, Q, h1, h2, h3, h4, h5⟩ := h.at_
  have a := h2.tree.places h2.f1
  have b := h2.tree.height
  exact ⟨by omega, b.1, by omega, fun hH => h2.tree.least hH⟩
theorem sole_new {fan most : Nat} (h1 : 4 ≤ fan) (h2 : fan ≤ 64) (h3 : 1 ≤ most) (h4 : most ≤ 65536) : Inv (A0 fan most) [] ∧ Sole (mkT (A0 fan most)) 1 [] := by
  have h : Inv (A0 fan most) [] := ⟨rfl, fun _ h => (by cases h), fun x => (by simp [A0]), List.nodup_nil, fun _ h => (by cases h), h1, h2, h4, by simp [Ar.nodes, A0], by simp [A0], by simp⟩
  obtain ⟨i, hi⟩ := h.made (by simp [Ar.nodes, A0]; omega) (by simp)
  exact ⟨h, rfl, i, [i], hi⟩
/-- an entry is put -/
theorem sPut {R M : Nat → Prop} {w : World} {g : Nat} {A : Ar} (h : Ar1 R M w g A) {H : Nat} {es : Es} (S : Sole A H es) {key val : Key} {Ω1 Ω2 : Nat → Prop} {KA VA : Option Addr} (hKA : Imm KB Ω1 w KA key) (hVA : Imm KB Ω2 w VA val) (kc vc : Nat) (hkl : key.length ≤ 1048576) (hvl : val.length ≤ 1048576) :
    CallsV Try.prog 17 #[.pointer (some ⟨g, 0, none⟩), .int .i64 1, .slice KA key.length kc, .slice VA val.length vc] w fun r w' => ∃ A' R' M' full, Ar1 R' M' w' g A' ∧ Chg R M w R' M' w' ∧ A'.fan = A.fan ∧ A'.most = A.most ∧ r = .tuple #[.bool (!full && inE key es), .int .i64 (if full then 5 else 0)] ∧
      (full = true → A' = A ∧ inE key es = false ∧ A.most < A.nodes + H + 1) ∧ (full = false → ∃ H', Sole A' H' (insE key val es)) := by
  obtain ⟨i, ps, Q, h1, h2, h3, h4, h5⟩ := S.at_
  refine (Put_spec h h1 h2 h3 hKA hVA kc vc hkl hvl).mono ?_
  rintro r w' ⟨R', M', h6, h7, rfl⟩
  refine ⟨_, R', M', putFull H A i key es, h6, h7, ?_, ?_, rfl, fun hf => ?_, fun hf => ?_⟩
  · split
    · rfl
    · exact (putTop_ok h2.tree h2.acc h2.f1 key val).choose_spec.choose_spec.1.fan
  · split
    · rfl
    · exact (putTop_ok h2.tree h2.acc h2.f1 key val).choose_spec.choose_spec.1.most
  · rw [if_pos hf]
    unfold putFull at hf
    simp only [Bool.and_eq_true, Bool.not_eq_true', decide_eq_true_eq] at hf
    have hw : wantsF A.fan (sizes H A i key) ≤ H + 1 := by
      have hl := sizes_len H h2.tree (Bnd.all key)
      unfold wantsF
      split
      · omega
      · rename_i hne
        have := trail_le A.fan (sizes H A i key)
        omega
    exact ⟨rfl, hf.1, by omega⟩
  · rw [if_neg (by rw [hf]; simp)]
    obtain ⟨hl, i', ps', hI⟩ := S
    have e1 := hI.get (d := ⟨1, i', H, es, ps'⟩) (by simp)
    have : i' = i := by have := e1.symm.trans h1; simpa using this
    subst this
    obtain ⟨h', ps2, h8, _⟩ := Inv.put (D1 := []) (D2 := []) hI key val hf
    refine ⟨h', ?_, i', ps2, h8⟩
    rw [(putTop_ok h2.tree h2.acc h2.f1 key val).choose_spec.choose_spec.1.last]; exact hl
theorem sDeep {R M : Nat → Prop} {w : World} {g : Nat} {A : Ar} (h : Ar1 R M w g A) {H : Nat} {es : Es} (S : Sole A H es) : CallsV Try.prog 16 #[.pointer (some ⟨g, 0, none⟩), .int .i64 1] w fun r w' => r = iv H ∧ Ext w w' := by
  obtain ⟨i, ps, Q, h1, h2, _⟩ := S.at_
  exact Deep_spec h h1 h2
theorem sNodes {R M : Nat → Prop} {w : World} {g : Nat} {A : Ar} (h : Ar1 R M w g A) {H : Nat} {es : Es} (S : Sole A H es) : CallsV Try.prog 15 #[.pointer (some ⟨g, 0, none⟩)] w fun r w' => r = iv A.nodes ∧ w' = w.drew := by
  obtain ⟨i, ps, Q, h1, h2, _⟩ := S.at_
  exact Nodes_spec h (Acc.free h2.acc).2 (by have := h2.len; omega)
theorem sLen {R M : Nat → Prop} {w : World} {g : Nat} {A : Ar} (h : Ar1 R M w g A) {H : Nat} {es : Es} (S : Sole A H es) : CallsV Try.prog 28 #[.pointer (some ⟨g, 0, none⟩), .int .i64 1] w fun r w' => r = iv es.length ∧ Ext w w' := by
  obtain ⟨i, ps, Q, h1, h2, _⟩ := S.at_
  exact Len_spec h h1 h2
theorem sCheck {R M : Nat → Prop} {w : World} {g : Nat} {A : Ar} (h : Ar1 R M w g A) {H : Nat} {es : Es} (S : Sole A H es) : CallsV Try.prog 19 #[.pointer (some ⟨g, 0, none⟩)] w fun r w' => r = .int .i64 0 ∧ Ext w w' := by
  obtain ⟨_, i, ps, hI⟩ := S
  exact Check_spec h hI.whole
theorem sAfter {R M : Nat → Prop} {w : World} {g : Nat} {A : Ar} (h : Ar1 R M w g A) {H : Nat} {es : Es} (S : Sole A H es) {key : Key} {Ω : Nat → Prop} {KA : Option Addr} (hKA : Imm KB Ω w KA key) (kc : Nat) (at_ : Bool) :
    CallsV Try.prog 24 #[.pointer (some ⟨g, 0, none⟩), .int .i64 1, .slice KA key.length kc, .bool at_] w fun r w' => Told w (aftE key at_ es) r w' ∧ Ext w w' := by
  obtain ⟨i, ps, Q, h1, h2, _⟩ := S.at_
  exact After_spec h h1 h2 hKA kc at_
theorem sBefore {R M : Nat → Prop} {w : World} {g : Nat} {A : Ar} (h : Ar1 R M w g A) {H : Nat} {es : Es} (S : Sole A H es) {key : Key} {Ω : Nat → Prop} {KA : Option Addr} (hKA : Imm KB Ω w KA key) (kc : Nat) (at_ : Bool) :
    CallsV Try.prog 33 #[.pointer (some ⟨g, 0, none⟩), .int .i64 1, .slice KA key.length kc, .bool at_] w fun r w' => Told w (befE key at_ es) r w' ∧ Ext w w' := by
  obtain ⟨i, ps, Q, h1, h2, _⟩ := S.at_
  exact Before_spec h h1 h2 hKA kc at_
/-- an arena, and its first tree -/
theorem sNew (w : World) (fan most : Nat) (h1 : 4 ≤ fan) (h2 : fan ≤ 64) (h3 : 1 ≤ most) (h4 : most ≤ 65536) :
    CallsV Try.prog 13 #[iv fan, iv most] w fun r w' => ∃ g R M, r = .tuple #[.pointer (some ⟨g, 0, none⟩), .int .i64 0] ∧ Ar1 R M w' g (A0 fan most) ∧ Ext w w' ∧ (∀ k, R k → w.heap.size ≤ k) ∧
      CallsV Try.prog 14 #[.pointer (some ⟨g, 0, none⟩)] w' fun r' w'' => r' = .tuple #[.int .i64 1, .int .i64 0] ∧ ∃ R' M', Ar1 R' M' w'' g (mkT (A0 fan most)) ∧ Ext w w'' ∧ ∀ k, R' k → w.heap.size ≤ k := by
  refine (New_spec w fan most h1 h2 h3 h4).mono ?_
  rintro r w' ⟨g, R, M, rfl, h, e, hR⟩
  refine ⟨g, R, M, rfl, h, e, hR, (Create_spec h (by simp [A0]; omega) (by simp [A0]) (fun x hx => by simp [A0] at hx) (by simp [A0]) (by simp [A0]) rfl (by simp [A0])).mono ?_⟩
  intro r' w'' hr
  rw [if_neg (by simp [A0, Ar.nodes]; omega)] at hr
  obtain ⟨rfl, R', M', h', c⟩ := hr
  obtain ⟨_, _, _, _, _, ha⟩ := h
  refine ⟨rfl, R', M', h', ⟨c.fr.os.trans e.os, c.fr.tape.trans e.tape, c.fr.output.trans e.output, Nat.le_trans e.size c.fr.size, fun k hk _ => (c.fr.block k (Nat.lt_of_lt_of_le hk e.size) fun hm => ?_).trans (e.block k hk fun h => h)⟩, fun k hk => ?_⟩
  · have := hR k (ha.mr k hm); omega
  · rcases c.r' k hk with hk | hk
    · exact hR k hk
    · exact Nat.le_trans e.size hk
/-! ## the helpers -/
theorem b_spec (w : World) (l : List UInt8) (hl : l.length ≤ 1048576) : CallsV Try.prog 54 #[.string ⟨l.toArray⟩] w fun r w' => ∃ A c, r = .slice A l.length c ∧ OwnB w' A c l ∧ Ext w w' ∧ New w A := by
  refine cardindexlaw04_b.calls okay ?_
  unfold cardindexlaw04_b.W
  obtain ⟨A, c, w', h1, h2, h3, h4, _⟩ := to_bytes bt w ⟨l.toArray⟩ (by show l.toArray.size ≤ maxLen; simp [maxLen]; omega)
  have e : sb ⟨l.toArray⟩ = l := rfl
  rw [e] at h1 h2
  exact ⟨_, _, _, _, h1, A, c, rfl, h2, h3, h4⟩
theorem tells_spec {Ω Ω' : Nat → Prop} {w : World} {A B : Option Addr} {c d : Nat} {k v : List UInt8} (hk : Imm KB Ω w A k) (hv : Imm KB Ω' w B v) (ok : Bool) (kl vl : List UInt8) :
    CallsV Try.prog 55 #[.slice A k.length c, .slice B v.length d, .bool ok, .string ⟨kl.toArray⟩, .string ⟨vl.toArray⟩] w fun r w' => r = .bool (decide (ok = !decide (kl = [])) && decide (k = kl) && decide (v = vl)) ∧ w' = w := by
  refine cardindexlaw04_tells.calls okay ?_
  unfold cardindexlaw04_tells.W
  have e0 : (ByteArray.toList ⟨kl.toArray⟩ == ByteArray.toList (ByteArray.mk #[])) = decide (kl = []) := eq_str kl []
  rw [e0]
  refine brd (fun h1 => ⟨_, _, to_str bt hk c, ?_⟩) (fun h1 => ⟨by rw [decide_eq_false h1]; rfl, rfl⟩)
  rw [decide_eq_true h1, Bool.true_and]
  exact brS (fun h2 => ⟨_, _, to_str bt hv d, by rw [decide_eq_true h2, Bool.true_and, eq_str], rfl⟩) (fun h2 => ⟨by rw [decide_eq_false h2]; rfl, rfl⟩)
end Go.Proofs.Ytadlhdiejmilmaa
