/- Part 7 of the texts of this claim: the engine, contracts, plain laws. -/
import Derived.Test.YthfagbfllheneaaZCNumbers5P6
import Derived.Test.YthfagbfllheneaaProg
import Derived.Test.YthfagbfllheneaaZCNumbers5P1
/- Layer 4: an arena's trees and the document's, side by side. -/
set_option linter.unusedVariables false
set_option linter.unusedSimpArgs false
namespace Go.Proofs.Ythfagbfllheneaa
open Go Go.Sx T4
/-! ## forests -/
def fo (d : Tr) : Int × Es := (d.r, d.es)
abbrev foD (Ds : List Tr) : List (Int × Es) := Ds.map fo
def gF : List (Int × Es) → Int → Option Es
  | [], _ => none
  | (x, u) :: l, a => if a = x then some u else gF l a
theorem gF_none {F : List (Int × Es)} {r : Int} (h : ∀ p ∈ F, p.1 ≠ r) : gF F r = none := by
  induction F with
  | nil => rfl
  | cons p F ih =>
    obtain ⟨x, u⟩ := p
    have hx : x ≠ r := h (x, u) (by simp)
    show (if r = x then some u else gF F r) = none
    rw [if_neg fun e => hx e.symm]
    exact ih fun p hp => h p (by simp [hp])
theorem gF_at : ∀ {F : List (Int × Es)} {r : Int} {j : Nat} {es : Es}, F[j]? = some (r, es) → (∀ k p, F[k]? = some p → k < j → p.1 ≠ r) → gF F r = some es
  | [], _, _, _, h, _ => by simp at h
  | (x, u) :: F, r, 0, es, h, _ => by
    simp at h
    obtain ⟨rfl, rfl⟩ := h
    show (if x = x then some u else _) = _
    rw [if_pos rfl]
  | (x, u) :: F, r, j + 1, es, h, hn => by
    have hx : x ≠ r := hn 0 (x, u) rfl (by omega)
    show (if r = x then some u else gF F r) = _
    rw [if_neg fun e => hx e.symm]
    exact gF_at (by simpa using h) fun k p hk hlt => hn (k + 1) p (by simpa using hk) (by omega)
theorem Fnd.cases {F : List (Int × Es)} {r i : Int} (h : Fnd F r i) : (i = -1 ∧ gF F r = none ∧ ∀ p ∈ F, p.1 ≠ r) ∨ ∃ (j : Nat) (es : Es), i = (j : Int) ∧ F[j]? = some (r, es) ∧ gF F r = some es := by
  rcases h with ⟨h1, h2⟩ | ⟨j, es, h1, h2, h3⟩
  · exact .inl ⟨h1, gF_none h2, h2⟩
  · exact .inr ⟨j, es, h1, h2, gF_at h2 h3⟩
/-- the tree of a number -/
theorem find_split {Ds : List Tr} {r : Int} : (gF (foD Ds) r = none ∧ ∀ d ∈ Ds, d.r ≠ r) ∨ ∃ D1 d D2, Ds = D1 ++ d :: D2 ∧ d.r = r ∧ gF (foD Ds) r = some d.es := by
  induction Ds with
  | nil => exact .inl ⟨rfl, fun d h => by cases h⟩
  | cons x Ds ih =>
    by_cases hx : r = x.r
    · exact .inr ⟨[], x, Ds, rfl, hx.symm, by show (if r = x.r then some x.es else _) = _; rw [if_pos hx]⟩
    · have e : gF (foD (x :: Ds)) r = gF (foD Ds) r := by show (if r = x.r then some x.es else _) = _; rw [if_neg hx]
      rcases ih with ⟨h1, h2⟩ | ⟨D1, d, D2, h1, h2, h3⟩
      · refine .inl ⟨by rw [e]; exact h1, fun d hd => ?_⟩
        rcases List.mem_cons.1 hd with rfl | hd
        · exact fun h => hx h.symm
        · exact h2 d hd
      · exact .inr ⟨x :: D1, d, D2, by rw [h1]; rfl, h2, by rw [e]; exact h3⟩
section
variable {R M : Nat → Prop} {w : World} {g : Nat} {A : Ar} {Ds : List Tr}
def lenO : Option Es → Nat
  | none => 0
  | some es => es.length
theorem uLen (h : Ar1 R M w g A) (hI : Inv A Ds) (root : Int) :
    CallsV Try.prog 82 #[.pointer (some ⟨g, 0, none⟩), .int .i64 root] w fun r w' => r = iv (lenO (gF (foD Ds) root)) ∧ Ext w w' := by
  rcases find_split (Ds := Ds) (r := root) with ⟨h1, h2⟩ | ⟨D1, d, D2, rfl, rfl, h3⟩
  · rw [h1]
    exact Len_none h (by have := hI.f1; omega) (hI.miss h2)
  · rw [h3]
    exact oLen h hI.one.1
theorem uGet (h : Ar1 R M w g A) (hI : Inv A Ds) (root : Int) {key : Key} {Ω : Nat → Prop} {KA : Option Addr} (hKA : Imm KB Ω w KA key) (kc : Nat) :
    CallsV Try.prog 88 #[.pointer (some ⟨g, 0, none⟩), .int .i64 root, .slice KA key.length kc] w fun r w' => Ext w w' ∧ (match (gF (foD Ds) root).bind (getE key) with | none => r = .tuple #[.slice none 0 0, .bool false] | some v => ∃ B d, r = .tuple #[.slice B v.length d, .bool true] ∧ OwnB w' B d v ∧ New w B ∧ v.length ≤ 1048576) := by
  rcases find_split (Ds := Ds) (r := root) with ⟨h1, h2⟩ | ⟨D1, d, D2, rfl, rfl, h3⟩
  · rw [h1]
    refine (Get_none h (by have := hI.f1; omega) (hI.miss h2) KA key.length kc).mono ?_
    rintro _ w' ⟨rfl, rfl⟩
    exact ⟨.refl _ _, rfl⟩
  · rw [h3]
    exact oGet h hI.one.1 hKA kc
end
/-! ## the document's -/
/-- small enough -/
structure Sml (F : List (Int × Es)) (n : Nat) : Prop where
  len : F.length ≤ n
  es : ∀ p ∈ F, p.2.length ≤ n
  keys : ∀ p ∈ F, ∀ q ∈ p.2, q.1.length ≤ 1048576
theorem Sml.mono {F : List (Int × Es)} {n m : Nat} (h : Sml F n) (hm : n ≤ m) : Sml F m := ⟨Nat.le_trans h.len hm, fun p hp => Nat.le_trans (h.es p hp) hm, h.keys⟩
section
variable {w : World} {Ω : Nat → Prop}
/-- what a tree told, to be read -/
def TI (Ω : Nat → Prop) (w : World) (x : Option (Key × Key)) (A : Option Addr) (n : Nat) (B : Option Addr) (m : Nat) (ok : Bool) : Prop := match x with
  | none => A = none ∧ n = 0 ∧ B = none ∧ m = 0 ∧ ok = false
  | some (k, v) => n = k.length ∧ m = v.length ∧ ok = true ∧ Imm KB Ω w A k ∧ Imm KB Ω w B v
theorem TI.keep {Ω' : Nat → Prop} {w' : World} {x : Option (Key × Key)} {A : Option Addr} {n : Nat} {B : Option Addr} {m : Nat} {ok : Bool} (h : TI Ω w x A n B m ok) (st : Step Ω w Ω' w') : TI Ω' w' x A n B m ok := by
  cases x with
  | none => exact h
  | some p => obtain ⟨h1, h2, h3, h4, h5⟩ := h; exact ⟨h1, h2, h3, h4.keep KB_pos st, h5.keep KB_pos st⟩
theorem TI.ext {w' : World} {x : Option (Key × Key)} {A : Option Addr} {n : Nat} {B : Option Addr} {m : Nat} {ok : Bool} (h : TI Ω w x A n B m ok) (e : Ext w w') : TI Ω w' x A n B m ok := h.keep (e.step Ω)
end
theorem gF_nd {F : List (Int × Es)} (hn : (F.map fun p => p.1).Nodup) {k : Nat} {r : Int} {es : Es} (h : F[k]? = some (r, es)) : gF F r = some es := by
  refine gF_at h fun j p hj hlt he => ?_
  have h1 : (F.map fun p => p.1)[j]? = some r := by simp [hj, he]
  have h2 : (F.map fun p => p.1)[k]? = some r := by simp [h]
  have hk := (List.getElem?_eq_some_iff.1 h2).1
  have := (List.getElem?_inj (by have := (List.getElem?_eq_some_iff.1 h1).1; exact this) hn).1 (h1.trans h2.symm)
  omega
theorem Inv.ndF {A : Ar} {Ds : List Tr} (h : Inv A Ds) : ((foD Ds).map fun p => p.1).Nodup := by
  have := h.nd
  have e : (foD Ds).map (fun p => p.1) = Ds.map fun d => d.r := by unfold foD; rw [List.map_map]; rfl
  rw [e]; exact this
theorem Sml.set {F : List (Int × Es)} {n : Nat} (h : Sml F n) (j : Nat) (r : Int) {es : Es} (h1 : es.length ≤ n) (h2 : ∀ q ∈ es, q.1.length ≤ 1048576) : Sml (F.set j (r, es)) n := by
  refine ⟨by simpa using h.len, fun p hp => ?_, fun p hp => ?_⟩
  · rcases List.mem_or_eq_of_mem_set hp with hp | rfl
    · exact h.es p hp
    · exact h1
  · rcases List.mem_or_eq_of_mem_set hp with hp | rfl
    · exact h.keys p hp
    · exact h2
end Go.Proofs.Ythfagbfllheneaa
/- The preconditions of Go functions, printed by a program of this workplace (nests.py); each is proved to be the engine's own. -/
set_option linter.unusedVariables false
set_option maxRecDepth 100000
namespace Go.Proofs.Ythfagbfllheneaa
open Go Go.Sx
noncomputable def undo_New.W : Int → Int → World → (Value → World → Prop) → Prop := fun (fan most : Int) (w : World) (K : Value → World → Prop) => CallsV Try.prog (69 : Nat)
 #[Value.int IntKind.i64 fan, Value.int IntKind.i64 most] w fun (v : Value) (w' : World) => ∃ (x : Option Addr), ∃ (x_1 : Int), v = Value.tuple #[Value.pointer x, Value.int
 IntKind.i64 x_1] ∧ bif !Decidable.decide (x_1 = (0 : Int)) then K (Value.tuple #[Value.pointer Option.none, Value.int IntKind.i64 x_1]) w' else ∀ (g : Nat) (w'_1 : World), Fresh
 w' g w'_1 [Value.pointer x, Value.slice Option.none (0 : Nat) (0 : Nat), Value.slice Option.none (0 : Nat) (0 : Nat)] (81 : Nat) → K (Value.tuple #[Value.pointer (Option.some (Addr.mk
 g (0 : Nat) Option.none)), Value.int IntKind.i64 (0 : Int)]) w'_1
theorem undo_New.eq (fan : Int) (most : Int) (w : World) (K : Value → World → Prop) : undo_New.W fan most w K = fnW Try.prog Try.f15 (.named .auto) [.int .i64 fan, .int .i64 most] w K := by kernel_rfl
theorem undo_New.calls (ok : Okay Try.prog) {fan : Int} {most : Int} {w : World} {K : Value → World → Prop} (h : undo_New.W fan most w K) : CallsV Try.prog 15 #[.int .i64 fan, .int .i64 most] w K :=
  fnW_calls ok Try.func15 (an := (.named .auto)) (args := [.int .i64 fan, .int .i64 most]) (by rw [← undo_New.eq]; exact h)
noncomputable def undo_Store_of.W : Option Addr → World → (Value → World → Prop) → Prop := fun (s : Option Addr) (w : World) (K : Value → World → Prop) => bif Option.isNone s then K
 (Value.pointer Option.none) w else ∃ (a : Addr), s = Option.some a ∧ ∃ (x : Option Addr), World.cell? w (Addr.add a (0 : Nat)) = Option.some (Value.pointer x) ∧ K (Value.pointer x)
 w
theorem undo_Store_of.eq (s : Option Addr) (w : World) (K : Value → World → Prop) : undo_Store_of.W s w K = fnW Try.prog Try.f76 (.named .auto) [.pointer s] w K := by kernel_rfl
theorem undo_Store_of.calls (ok : Okay Try.prog) {s : Option Addr} {w : World} {K : Value → World → Prop} (h : undo_Store_of.W s w K) : CallsV Try.prog 76 #[.pointer s] w K :=
  fnW_calls ok Try.func76 (an := (.named .auto)) (args := [.pointer s]) (by rw [← undo_Store_of.eq]; exact h)
noncomputable def undo_Store_made.W : Option Addr → World → (Value → World → Prop) → Prop := fun (s : Option Addr) (w : World) (K : Value → World → Prop) => bif !Option.isNone s then ∃ (a :
 Addr), s = Option.some a ∧ ∃ (x : Option Addr), World.cell? w (Addr.add a (0 : Nat)) = Option.some (Value.pointer x) ∧ K (Value.bool !Option.isNone x) w else K (Value.bool
 Bool.false) w
theorem undo_Store_made.eq (s : Option Addr) (w : World) (K : Value → World → Prop) : undo_Store_made.W s w K = fnW Try.prog Try.f70 (.named .auto) [.pointer s] w K := by kernel_rfl
theorem undo_Store_made.calls (ok : Okay Try.prog) {s : Option Addr} {w : World} {K : Value → World → Prop} (h : undo_Store_made.W s w K) : CallsV Try.prog 70 #[.pointer s] w K :=
  fnW_calls ok Try.func70 (an := (.named .auto)) (args := [.pointer s]) (by rw [← undo_Store_made.eq]; exact h)
noncomputable def undo_Store_is.W : Option Addr → Int → World → (Value → World → Prop) → Prop := fun (s : Option Addr) (n : Int) (w : World) (K : Value → World → Prop) => CallsV
 Try.prog (70 : Nat) #[Value.pointer s] w fun (v : Value) (w' : World) => ∃ (x : Bool), v = Value.bool x ∧ bif !x then K (Value.int IntKind.i64 (1 : Int)) w' else bif
 Decidable.decide (n < (1 : Int)) then K (Value.int IntKind.i64 (60 : Int)) w' else ∃ (a : Addr), s = Option.some a ∧ ∃ (x : Option Addr), ∃ (x_1 : Nat), ∃ (x_2 : Nat), World.cell? w'
 (Addr.add a (2 : Nat)) = Option.some (Value.slice x x_1 x_2) ∧ bif Decidable.decide ((↑x_1 : Int) < n) then K (Value.int IntKind.i64 (60 : Int)) w' else K (Value.int IntKind.i64 (0 :
 Int)) w'
theorem undo_Store_is.eq (s : Option Addr) (n : Int) (w : World) (K : Value → World → Prop) : undo_Store_is.W s n w K = fnW Try.prog Try.f73 (.named .auto) [.pointer s, .int .i64 n] w K := by kernel_rfl
theorem undo_Store_is.calls (ok : Okay Try.prog) {s : Option Addr} {n : Int} {w : World} {K : Value → World → Prop} (h : undo_Store_is.W s n w K) : CallsV Try.prog 73 #[.pointer s, .int .i64 n] w K :=
  fnW_calls ok Try.func73 (an := (.named .auto)) (args := [.pointer s, .int .i64 n]) (by rw [← undo_Store_is.eq]; exact h)
noncomputable def undo_Store_Create.W : Option Addr → World → (Value → World → Prop) → Prop := fun (s : Option Addr) (w : World) (K : Value → World → Prop) => CallsV
 Try.prog (76 : Nat) #[Value.pointer s] w fun (v : Value) (w' : World) => ∃ (x : Option Addr), v = Value.pointer x ∧ CallsV Try.prog (77 : Nat)
 #[Value.pointer x] w' fun (v : Value) (w' : World) => ∃ (x : Int), ∃ (x_1 : Int), v = Value.tuple #[Value.int IntKind.i64 x, Value.int IntKind.i64 x_1] ∧ bif Decidable.decide
 (x_1 = (0 : Int)) then ∃ (a : Addr), s = Option.some a ∧ ∃ (x_2 : Option Addr), ∃ (x_3 : Nat), ∃ (x_4 : Nat), World.cell? w' (Addr.add a (1 : Nat)) = Option.some (Value.slice x_2 x_3
 x_4) ∧ ∀ (g : Nat) (w'_1 : World), Fresh w' g w'_1 [Value.int IntKind.i64 x] (3 : Nat) → ∃ (x_5 : Option Addr), ∃ (x_6 : Nat), ∃ (x_7 : Nat), ∃ (w' : World), RunsTo
 Try.prog (Builtin.append_ (Array.mk [(37 : Nat), (37 : Nat)]) (37 : Nat) #[Value.slice x_2 x_3 x_4, Value.slice (Option.some (Addr.mk g (0 : Nat) Option.none)) (1 : Nat) (1 :
 Nat)]) w'_1 (Value.slice x_5 x_6 x_7) w' ∧ ∃ (a : Addr), s = Option.some a ∧ stOK (Addr.add a (1 : Nat)) (0 : Nat) [Value.slice x_5 x_6 x_7] w' ∧ ∀ (w'_2 : World), w'_2 =
 setAll (Addr.add a (1 : Nat)) (0 : Nat) [Value.slice x_5 x_6 x_7] w' → K (Value.tuple #[Value.int IntKind.i64 x, Value.int IntKind.i64 x_1]) w'_2 else K (Value.tuple
 #[Value.int IntKind.i64 x, Value.int IntKind.i64 x_1]) w'
theorem undo_Store_Create.eq (s : Option Addr) (w : World) (K : Value → World → Prop) : undo_Store_Create.W s w K = fnW Try.prog Try.f26 (.named .auto) [.pointer s] w K := by kernel_rfl
theorem undo_Store_Create.calls (ok : Okay Try.prog) {s : Option Addr} {w : World} {K : Value → World → Prop} (h : undo_Store_Create.W s w K) : CallsV Try.prog 26 #[.pointer s] w K :=
  fnW_calls ok Try.func26 (an := (.named .auto)) (args := [.pointer s]) (by rw [← undo_Store_Create.eq]; exact h)
noncomputable def undo_Store_Drop.W : Option Addr → Int → World → (Value → World → Prop) → Prop := fun (s : Option Addr) (id : Int) (w : World) (K : Value → World → Prop) => ∀ (g : Nat) (w'
 : World), Fresh w g w' [Value.int IntKind.i64 id] (3 : Nat) → ∃ (J : Int → World → Prop), (∀ (x : Int) (w : World), J x w → bif Decidable.decide (x = (0 : Int)) then ∃ (a :
 Addr), s = Option.some a ∧ ∃ (x_1 : Option Addr), ∃ (x_2 : Nat), ∃ (x_3 : Nat), World.cell? w (Addr.add a (1 : Nat)) = Option.some (Value.slice x_1 x_2 x_3) ∧ CallsV
 Try.prog (72 : Nat) #[Value.slice x_1 x_2 x_3] w fun (v : Value) (w' : World) => ∃ (x_4 : Option Addr), ∃ (x_5 : Nat), ∃ (x_6 : Nat), v = Value.slice x_4 x_5 x_6 ∧ CallsV
 Try.prog (80 : Nat) #[Value.slice x_4 x_5 x_6, Value.func (Fn.func (81 : Nat)) #[] #[Value.pointer (Option.some (Addr.mk g (0 : Nat) Option.none))]] w' fun (v : Value) (w' :
 World) => ∃ (x_7 : Option Addr), ∃ (x_8 : Nat), ∃ (x_9 : Nat), v = Value.slice x_7 x_8 x_9 ∧ ∃ (a : Addr), s = Option.some a ∧ stOK (Addr.add a (1 : Nat)) (0 : Nat) [Value.slice
 x_7 x_8 x_9] w' ∧ ∀ (w'_1 : World), w'_1 = setAll (Addr.add a (1 : Nat)) (0 : Nat) [Value.slice x_7 x_8 x_9] w' → K (Value.int IntKind.i64 x) w'_1 else K (Value.int
 IntKind.i64 x) w) ∧ ∃ (S : World → Prop), S (World.drew w') ∧ ∃ (x : Int), (∀ (u : World), S u → World.cell? u (Addr.mk g (0 : Nat) Option.none) = Option.some (Value.int
 IntKind.i64 x)) ∧ CallsV Try.prog (76 : Nat) #[Value.pointer s] (World.drew w') fun (v : Value) (w' : World) => ∃ (x_1 : Option Addr), v = Value.pointer x_1 ∧ S w'
 ∧ CallsV Try.prog (79 : Nat) #[Value.pointer x_1, Value.int IntKind.i64 x] w' fun (v : Value) (w' : World) => ∃ (x : Int), v = Value.int IntKind.i64 x ∧ J x w'
theorem undo_Store_Drop.eq (s : Option Addr) (id : Int) (w : World) (K : Value → World → Prop) : undo_Store_Drop.W s id w K = fnW Try.prog Try.f31 (.named (.seq .auto (.join [(5, .one (.int .i64))] .auto .auto))) [.pointer s, .int .i64 id] w K := by kernel_rfl
theorem undo_Store_Drop.calls (ok : Okay Try.prog) {s : Option Addr} {id : Int} {w : World} {K : Value → World → Prop} (h : undo_Store_Drop.W s id w K) : CallsV Try.prog 31 #[.pointer s, .int .i64 id] w K :=
  fnW_calls ok Try.func31 (an := (.named (.seq .auto (.join [(5, .one (.int .i64))] .auto .auto)))) (args := [.pointer s, .int .i64 id]) (by rw [← undo_Store_Drop.eq]; exact h)
noncomputable def undo_Store_Put.W : Option Addr → Int → Option Addr → Nat → Nat → Option Addr → Nat → Nat → World → (Value → World → Prop) → Prop := fun (s : Option Addr) (id : Int) (key_A : Option
 Addr) (key_n key_c : Nat) (val_A : Option Addr) (val_n val_c : Nat) (w : World) (K : Value → World → Prop) => CallsV Try.prog (76 : Nat) #[Value.pointer s] w fun (v :
 Value) (w' : World) => ∃ (x : Option Addr), v = Value.pointer x ∧ CallsV Try.prog (78 : Nat) #[Value.pointer x, Value.int IntKind.i64 id, Value.slice key_A key_n
 key_c, Value.slice val_A val_n val_c] w' fun (v : Value) (w' : World) => ∃ (x : Bool), ∃ (x_1 : Int), v = Value.tuple #[Value.bool x, Value.int IntKind.i64 x_1] ∧ K (Value.tuple
 #[Value.bool x, Value.int IntKind.i64 x_1]) w'
theorem undo_Store_Put.eq (s : Option Addr) (id : Int) (key_A : Option Addr) (key_n : Nat) (key_c : Nat) (val_A : Option Addr) (val_n : Nat) (val_c : Nat) (w : World) (K : Value → World → Prop) : undo_Store_Put.W s id key_A key_n key_c val_A val_n val_c w K = fnW Try.prog Try.f29 (.named .auto) [.pointer s, .int .i64 id, .slice key_A key_n key_c, .slice val_A val_n val_c] w K := by kernel_rfl
theorem undo_Store_Put.calls (ok : Okay Try.prog) {s : Option Addr} {id : Int} {key_A : Option Addr} {key_n : Nat} {key_c : Nat} {val_A : Option Addr} {val_n : Nat} {val_c : Nat} {w : World} {K : Value → World → Prop} (h : undo_Store_Put.W s id key_A key_n key_c val_A val_n val_c w K) : CallsV Try.prog 29 #[.pointer s, .int .i64 id, .slice key_A key_n key_c, .slice val_A val_n val_c] w K :=
  fnW_calls ok Try.func29 (an := (.named .auto)) (args := [.pointer s, .int .i64 id, .slice key_A key_n key_c, .slice val_A val_n val_c]) (by rw [← undo_Store_Put.eq]; exact h)
noncomputable def undo_Store_Delete.W : Option Addr → Int → Option Addr → Nat → Nat → World → (Value → World → Prop) → Prop := fun (s : Option Addr) (id : Int) (key_A : Option Addr) (key_n key_c
 : Nat) (w : World) (K : Value → World → Prop) => CallsV Try.prog (76 : Nat) #[Value.pointer s] w fun (v : Value) (w' : World) => ∃ (x : Option Addr), v =
 Value.pointer x ∧ CallsV Try.prog (87 : Nat) #[Value.pointer x, Value.int IntKind.i64 id, Value.slice key_A key_n key_c] w' fun (v : Value) (w' : World) => ∃ (x :
 Bool), ∃ (x_1 : Int), v = Value.tuple #[Value.bool x, Value.int IntKind.i64 x_1] ∧ K (Value.tuple #[Value.bool x, Value.int IntKind.i64 x_1]) w'
theorem undo_Store_Delete.eq (s : Option Addr) (id : Int) (key_A : Option Addr) (key_n : Nat) (key_c : Nat) (w : World) (K : Value → World → Prop) : undo_Store_Delete.W s id key_A key_n key_c w K = fnW Try.prog Try.f40 (.named .auto) [.pointer s, .int .i64 id, .slice key_A key_n key_c] w K := by kernel_rfl
theorem undo_Store_Delete.calls (ok : Okay Try.prog) {s : Option Addr} {id : Int} {key_A : Option Addr} {key_n : Nat} {key_c : Nat} {w : World} {K : Value → World → Prop} (h : undo_Store_Delete.W s id key_A key_n key_c w K) : CallsV Try.prog 40 #[.pointer s, .int .i64 id, .slice key_A key_n key_c] w K :=
  fnW_calls ok Try.func40 (an := (.named .auto)) (args := [.pointer s, .int .i64 id, .slice key_A key_n key_c]) (by rw [← undo_Store_Delete.eq]; exact h)
noncomputable def undo_Store_Get.W : Option Addr → Int → Option Addr → Nat → Nat → World → (Value → World → Prop) → Prop := fun (s : Option Addr) (id : Int) (key_A : Option Addr) (key_n key_c :
 Nat) (w : World) (K : Value → World → Prop) => CallsV Try.prog (76 : Nat) #[Value.pointer s] w fun (v : Value) (w' : World) => ∃ (x : Option Addr), v =
 Value.pointer x ∧ CallsV Try.prog (88 : Nat) #[Value.pointer x, Value.int IntKind.i64 id, Value.slice key_A key_n key_c] w' fun (v : Value) (w' : World) => ∃ (x :
 Option Addr), ∃ (x_1 : Nat), ∃ (x_2 : Nat), ∃ (x_3 : Bool), v = Value.tuple #[Value.slice x x_1 x_2, Value.bool x_3] ∧ K (Value.tuple #[Value.slice x x_1 x_2, Value.bool x_3]) w'
theorem undo_Store_Get.eq (s : Option Addr) (id : Int) (key_A : Option Addr) (key_n : Nat) (key_c : Nat) (w : World) (K : Value → World → Prop) : undo_Store_Get.W s id key_A key_n key_c w K = fnW Try.prog Try.f49 (.named .auto) [.pointer s, .int .i64 id, .slice key_A key_n key_c] w K := by kernel_rfl
theorem undo_Store_Get.calls (ok : Okay Try.prog) {s : Option Addr} {id : Int} {key_A : Option Addr} {key_n : Nat} {key_c : Nat} {w : World} {K : Value → World → Prop} (h : undo_Store_Get.W s id key_A key_n key_c w K) : CallsV Try.prog 49 #[.pointer s, .int .i64 id, .slice key_A key_n key_c] w K :=
  fnW_calls ok Try.func49 (an := (.named .auto)) (args := [.pointer s, .int .i64 id, .slice key_A key_n key_c]) (by rw [← undo_Store_Get.eq]; exact h)
noncomputable def undo_Store_After.W : Option Addr → Int → Option Addr → Nat → Nat → Bool → World → (Value → World → Prop) → Prop := fun (s : Option Addr) (id : Int) (key_A : Option Addr) (key_n
 key_c : Nat) (atx : Bool) (w : World) (K : Value → World → Prop) => CallsV Try.prog (76 : Nat) #[Value.pointer s] w fun (v : Value) (w' : World) => ∃ (x : Option
 Addr), v = Value.pointer x ∧ CallsV Try.prog (89 : Nat) #[Value.pointer x, Value.int IntKind.i64 id, Value.slice key_A key_n key_c, Value.bool atx] w' fun (v :
 Value) (w' : World) => ∃ (x : Option Addr), ∃ (x_1 : Nat), ∃ (x_2 : Nat), ∃ (x_3 : Option Addr), ∃ (x_4 : Nat), ∃ (x_5 : Nat), ∃ (x_6 : Bool), v = Value.tuple #[Value.slice x x_1 x_2,
 Value.slice x_3 x_4 x_5, Value.bool x_6] ∧ K (Value.tuple #[Value.slice x x_1 x_2, Value.slice x_3 x_4 x_5, Value.bool x_6]) w'
theorem undo_Store_After.eq (s : Option Addr) (id : Int) (key_A : Option Addr) (key_n : Nat) (key_c : Nat) (atx : Bool) (w : World) (K : Value → World → Prop) : undo_Store_After.W s id key_A key_n key_c atx w K = fnW Try.prog Try.f50 (.named .auto) [.pointer s, .int .i64 id, .slice key_A key_n key_c, .bool atx] w K := by kernel_rfl
theorem undo_Store_After.calls (ok : Okay Try.prog) {s : Option Addr} {id : Int} {key_A : Option Addr} {key_n : Nat} {key_c : Nat} {atx : Bool} {w : World} {K : Value → World → Prop} (h : undo_Store_After.W s id key_A key_n key_c atx w K) : CallsV Try.prog 50 #[.pointer s, .int .i64 id, .slice key_A key_n key_c, .bool atx] w K :=
  fnW_calls ok Try.func50 (an := (.named .auto)) (args := [.pointer s, .int .i64 id, .slice key_A key_n key_c, .bool atx]) (by rw [← undo_Store_After.eq]; exact h)
noncomputable def undo_Store_Before.W : Option Addr → Int → Option Addr → Nat → Nat → Bool → World → (Value → World → Prop) → Prop := fun (s : Option Addr) (id : Int) (key_A : Option Addr) (key_n
 key_c : Nat) (atx : Bool) (w : World) (K : Value → World → Prop) => CallsV Try.prog (76 : Nat) #[Value.pointer s] w fun (v : Value) (w' : World) => ∃ (x : Option
 Addr), v = Value.pointer x ∧ CallsV Try.prog (90 : Nat) #[Value.pointer x, Value.int IntKind.i64 id, Value.slice key_A key_n key_c, Value.bool atx] w' fun (v :
 Value) (w' : World) => ∃ (x : Option Addr), ∃ (x_1 : Nat), ∃ (x_2 : Nat), ∃ (x_3 : Option Addr), ∃ (x_4 : Nat), ∃ (x_5 : Nat), ∃ (x_6 : Bool), v = Value.tuple #[Value.slice x x_1 x_2,
 Value.slice x_3 x_4 x_5, Value.bool x_6] ∧ K (Value.tuple #[Value.slice x x_1 x_2, Value.slice x_3 x_4 x_5, Value.bool x_6]) w'
theorem undo_Store_Before.eq (s : Option Addr) (id : Int) (key_A : Option Addr) (key_n : Nat) (key_c : Nat) (atx : Bool) (w : World) (K : Value → World → Prop) : undo_Store_Before.W s id key_A key_n key_c atx w K = fnW Try.prog Try.f51 (.named .auto) [.pointer s, .int .i64 id, .slice key_A key_n key_c, .bool atx] w K := by kernel_rfl
theorem undo_Store_Before.calls (ok : Okay Try.prog) {s : Option Addr} {id : Int} {key_A : Option Addr} {key_n : Nat} {key_c : Nat} {atx : Bool} {w : World} {K : Value → World → Prop} (h : undo_Store_Before.W s id key_A key_n key_c atx w K) : CallsV Try.prog 51 #[.pointer s, .int .i64 id, .slice key_A key_n key_c, .bool atx] w K :=
  fnW_calls ok Try.func51 (an := (.named .auto)) (args := [.pointer s, .int .i64 id, .slice key_A key_n key_c, .bool atx]) (by rw [← undo_Store_Before.eq]; exact h)
noncomputable def undo_Store_Last.W : Option Addr → Int → World → (Value → World → Prop) → Prop := fun (s : Option Addr) (id : Int) (w : World) (K : Value → World → Prop) => CallsV
 Try.prog (76 : Nat) #[Value.pointer s] w fun (v : Value) (w' : World) => ∃ (x : Option Addr), v = Value.pointer x ∧ CallsV Try.prog (91 : Nat)
 #[Value.pointer x, Value.int IntKind.i64 id] w' fun (v : Value) (w' : World) => ∃ (x : Option Addr), ∃ (x_1 : Nat), ∃ (x_2 : Nat), ∃ (x_3 : Option Addr), ∃ (x_4 : Nat), ∃ (x_5 :
 Nat), ∃ (x_6 : Bool), v = Value.tuple #[Value.slice x x_1 x_2, Value.slice x_3 x_4 x_5, Value.bool x_6] ∧ K (Value.tuple #[Value.slice x x_1 x_2, Value.slice x_3 x_4 x_5,
 Value.bool x_6]) w'
theorem undo_Store_Last.eq (s : Option Addr) (id : Int) (w : World) (K : Value → World → Prop) : undo_Store_Last.W s id w K = fnW Try.prog Try.f52 (.named .auto) [.pointer s, .int .i64 id] w K := by kernel_rfl
theorem undo_Store_Last.calls (ok : Okay Try.prog) {s : Option Addr} {id : Int} {w : World} {K : Value → World → Prop} (h : undo_Store_Last.W s id w K) : CallsV Try.prog 52 #[.pointer s, .int .i64 id] w K :=
  fnW_calls ok Try.func52 (an := (.named .auto)) (args := [.pointer s, .int .i64 id]) (by rw [← undo_Store_Last.eq]; exact h)
noncomputable def undo_Store_Len.W : Option Addr → Int → World → (Value → World → Prop) → Prop := fun (s : Option Addr) (id : Int) (w : World) (K : Value → World → Prop) => CallsV
 Try.prog (76 : Nat) #[Value.pointer s] w fun (v : Value) (w' : World) => ∃ (x : Option Addr), v = Value.pointer x ∧ CallsV Try.prog (82 : Nat)
 #[Value.pointer x, Value.int IntKind.i64 id] w' fun (v : Value) (w' : World) => ∃ (x : Int), v = Value.int IntKind.i64 x ∧ K (Value.int IntKind.i64 x) w'
theorem undo_Store_Len.eq (s : Option Addr) (id : Int) (w : World) (K : Value → World → Prop) : undo_Store_Len.W s id w K = fnW Try.prog Try.f34 (.named .auto) [.pointer s, .int .i64 id] w K := by kernel_rfl
theorem undo_Store_Len.calls (ok : Okay Try.prog) {s : Option Addr} {id : Int} {w : World} {K : Value → World → Prop} (h : undo_Store_Len.W s id w K) : CallsV Try.prog 34 #[.pointer s, .int .i64 id] w K :=
  fnW_calls ok Try.func34 (an := (.named .auto)) (args := [.pointer s, .int .i64 id]) (by rw [← undo_Store_Len.eq]; exact h)
noncomputable def undo_Store_Trees.W : Option Addr → World → (Value → World → Prop) → Prop := fun (s : Option Addr) (w : World) (K : Value → World → Prop) => bif Option.isNone s then K
 (Value.slice Option.none (0 : Nat) (0 : Nat)) w else ∃ (a : Addr), s = Option.some a ∧ ∃ (x : Option Addr), ∃ (x_1 : Nat), ∃ (x_2 : Nat), World.cell? w (Addr.add a (1 : Nat)) =
 Option.some (Value.slice x x_1 x_2) ∧ CallsV Try.prog (72 : Nat) #[Value.slice x x_1 x_2] w fun (v : Value) (w' : World) => ∃ (x : Option Addr), ∃ (x_3 : Nat), ∃ (x_4 :
 Nat), v = Value.slice x x_3 x_4 ∧ K (Value.slice x x_3 x_4) w'
theorem undo_Store_Trees.eq (s : Option Addr) (w : World) (K : Value → World → Prop) : undo_Store_Trees.W s w K = fnW Try.prog Try.f33 (.named .auto) [.pointer s] w K := by kernel_rfl
theorem undo_Store_Trees.calls (ok : Okay Try.prog) {s : Option Addr} {w : World} {K : Value → World → Prop} (h : undo_Store_Trees.W s w K) : CallsV Try.prog 33 #[.pointer s] w K :=
  fnW_calls ok Try.func33 (an := (.named .auto)) (args := [.pointer s]) (by rw [← undo_Store_Trees.eq]; exact h)
noncomputable def undo_Store_Nodes.W : Option Addr → World → (Value → World → Prop) → Prop := fun (s : Option Addr) (w : World) (K : Value → World → Prop) => CallsV Try.prog
 (76 : Nat) #[Value.pointer s] w fun (v : Value) (w' : World) => ∃ (x : Option Addr), v = Value.pointer x ∧ CallsV Try.prog (86 : Nat) #[Value.pointer x] w' fun (v :
 Value) (w' : World) => ∃ (x : Int), v = Value.int IntKind.i64 x ∧ K (Value.int IntKind.i64 x) w'
theorem undo_Store_Nodes.eq (s : Option Addr) (w : World) (K : Value → World → Prop) : undo_Store_Nodes.W s w K = fnW Try.prog Try.f39 (.named .auto) [.pointer s] w K := by kernel_rfl
theorem undo_Store_Nodes.calls (ok : Okay Try.prog) {s : Option Addr} {w : World} {K : Value → World → Prop} (h : undo_Store_Nodes.W s w K) : CallsV Try.prog 39 #[.pointer s] w K :=
  fnW_calls ok Try.func39 (an := (.named .auto)) (args := [.pointer s]) (by rw [← undo_Store_Nodes.eq]; exact h)
noncomputable def undo_Store_Check.W : Option Addr → World → (Value → World → Prop) → Prop := fun (s : Option Addr) (w : World) (K : Value → World → Prop) => CallsV Try.prog
 (76 : Nat) #[Value.pointer s] w fun (v : Value) (w' : World) => ∃ (x : Option Addr), v = Value.pointer x ∧ CallsV Try.prog (83 : Nat) #[Value.pointer x] w' fun (v :
 Value) (w' : World) => ∃ (x : Int), v = Value.int IntKind.i64 x ∧ K (Value.int IntKind.i64 x) w'
theorem undo_Store_Check.eq (s : Option Addr) (w : World) (K : Value → World → Prop) : undo_Store_Check.W s w K = fnW Try.prog Try.f35 (.named .auto) [.pointer s] w K := by kernel_rfl
theorem undo_Store_Check.calls (ok : Okay Try.prog) {s : Option Addr} {w : World} {K : Value → World → Prop} (h : undo_Store_Check.W s w K) : CallsV Try.prog 35 #[.pointer s] w K :=
  fnW_calls ok Try.func35 (an := (.named .auto)) (args := [.pointer s]) (by rw [← undo_Store_Check.eq]; exact h)
noncomputable def undo_Store_Mark.W : Option Addr → World → (Value → World → Prop) → Prop := fun (s : Option Addr) (w : World) (K : Value → World → Prop) => CallsV Try.prog
 (70 : Nat) #[Value.pointer s] w fun (v : Value) (w' : World) => ∃ (x : Bool), v = Value.bool x ∧ bif !x then K (Value.tuple #[Value.int IntKind.i64 (0 : Int), Value.int
 IntKind.i64 (1 : Int)]) w' else ∃ (a : Addr), s = Option.some a ∧ ∃ (x : Option Addr), ∃ (x_1 : Nat), ∃ (x_2 : Nat), World.cell? w' (Addr.add a (2 : Nat)) = Option.some (Value.slice x
 x_1 x_2) ∧ bif Decidable.decide ((100 : Int) ≤ (↑x_1 : Int)) then K (Value.tuple #[Value.int IntKind.i64 (0 : Int), Value.int IntKind.i64 (5 : Int)]) w' else ∃ (J : World → Prop), (∀
 (w : World), J w → ∃ (a : Addr), s = Option.some a ∧ ∃ (x : Option Addr), ∃ (x_3 : Nat), ∃ (x_4 : Nat), World.cell? w (Addr.add a (2 : Nat)) = Option.some (Value.slice x x_3 x_4) ∧ K
 (Value.tuple #[Value.int IntKind.i64 (↑x_3 : Int), Value.int IntKind.i64 (0 : Int)]) w) ∧ ∃ (a : Addr), s = Option.some a ∧ ∃ (S : World → Prop), S (World.drew w') ∧ ∃ (x :
 Option Addr), ∃ (x_3 : Nat), ∃ (x_4 : Nat), (∀ (u : World), S u → World.cell? u (Addr.add a (2 : Nat)) = Option.some (Value.slice x x_3 x_4)) ∧ ∃ (a : Addr), s = Option.some a ∧ ∃
 (x_5 : Option Addr), (∀ (u : World), S u → World.cell? u (Addr.add a (0 : Nat)) = Option.some (Value.pointer x_5)) ∧ ∃ (a : Addr), s = Option.some a ∧ ∃ (x_6 : Option Addr), ∃ (x_7
 : Nat), ∃ (x_8 : Nat), (∀ (u : World), S u → World.cell? u (Addr.add a (1 : Nat)) = Option.some (Value.slice x_6 x_7 x_8)) ∧ CallsV Try.prog (71 : Nat) #[Value.pointer
 x_5] (World.drew w') fun (v : Value) (w' : World) => ∃ (x_9 : Option Addr), v = Value.pointer x_9 ∧ S w' ∧ CallsV Try.prog (72 : Nat) #[Value.slice x_6 x_7 x_8] w' fun
 (v : Value) (w' : World) => ∃ (x_10 : Option Addr), ∃ (x_11 : Nat), ∃ (x_12 : Nat), v = Value.slice x_10 x_11 x_12 ∧ S w' ∧ ∀ (g : Nat) (w'_1 : World), Fresh w' g w'_1
 [Value.pointer x_9, Value.slice x_10 x_11 x_12] (122 : Nat) → S w'_1 ∧ ∃ (x_13 : Option Addr), ∃ (x_14 : Nat), ∃ (x_15 : Nat), ∃ (w' : World), RunsTo Try.prog
 (Builtin.append_ (Array.mk [(79 : Nat), (79 : Nat)]) (79 : Nat) #[Value.slice x x_3 x_4, Value.slice (Option.some (Addr.mk g (0 : Nat) Option.none)) (1 : Nat) (1 : Nat)]) w'_1
 (Value.slice x_13 x_14 x_15) w' ∧ ∃ (a : Addr), s = Option.some a ∧ stOK (Addr.add a (2 : Nat)) (0 : Nat) [Value.slice x_13 x_14 x_15] w' ∧ ∀ (w'_2 : World), w'_2 = setAll
 (Addr.add a (2 : Nat)) (0 : Nat) [Value.slice x_13 x_14 x_15] w' → J w'_2
theorem undo_Store_Mark.eq (s : Option Addr) (w : World) (K : Value → World → Prop) : undo_Store_Mark.W s w K = fnW Try.prog Try.f18 (.named (.seq .auto (.seq .auto (.join [] .auto .auto)))) [.pointer s] w K := by kernel_rfl
theorem undo_Store_Mark.calls (ok : Okay Try.prog) {s : Option Addr} {w : World} {K : Value → World → Prop} (h : undo_Store_Mark.W s w K) : CallsV Try.prog 18 #[.pointer s] w K :=
  fnW_calls ok Try.func18 (an := (.named (.seq .auto (.seq .auto (.join [] .auto .auto))))) (args := [.pointer s]) (by rw [← undo_Store_Mark.eq]; exact h)
noncomputable def undo_Store_Back.W : Option Addr → Int → World → (Value → World → Prop) → Prop := fun (s : Option Addr) (n : Int) (w : World) (K : Value → World → Prop) => CallsV
 Try.prog (73 : Nat) #[Value.pointer s, Value.int IntKind.i64 n] w fun (v : Value) (w' : World) => ∃ (x : Int), v = Value.int IntKind.i64 x ∧ bif !Decidable.decide (x = (0
 : Int)) then K (Value.int IntKind.i64 x) w' else ∃ (a : Addr), s = Option.some a ∧ ∃ (x : Option Addr), ∃ (x_1 : Nat), ∃ (x_2 : Nat), World.cell? w' (Addr.add a (2 : Nat)) =
 Option.some (Value.slice x x_1 x_2) ∧ ∃ (ad : Addr), x = Option.some ad ∧ ((0 : Int) ≤ IntKind.wrap IntKind.i64 (n - (1 : Int)) ∧ IntKind.wrap IntKind.i64 (n - (1 : Int)) < (↑x_1 :
 Int)) ∧ ∃ (x : Option Addr), World.cell? w' (Addr.add (Addr.add ad (Int.toNat (IntKind.wrap IntKind.i64 (n - (1 : Int))) * (2 : Nat))) (0 : Nat)) = Option.some (Value.pointer x) ∧
 ∃ (x_3 : Option Addr), ∃ (x_4 : Nat), ∃ (x_5 : Nat), World.cell? w' (Addr.add (Addr.add ad (Int.toNat (IntKind.wrap IntKind.i64 (n - (1 : Int))) * (2 : Nat))) (1 : Nat)) = Option.some
 (Value.slice x_3 x_4 x_5) ∧ ∀ (g : Nat) (w'_1 : World), Fresh w' g w'_1 [Value.pointer Option.none, Value.slice Option.none (0 : Nat) (0 : Nat)] (122 : Nat) → stOK (Addr.mk g
 (0 : Nat) Option.none) (0 : Nat) [Value.pointer x, Value.slice x_3 x_4 x_5] w'_1 ∧ ∀ (w' : World), w' = setAll (Addr.mk g (0 : Nat) Option.none) (0 : Nat) [Value.pointer x,
 Value.slice x_3 x_4 x_5] w'_1 → ∃ (J : World → Prop), (∀ (w : World), J w → ∃ (a : Addr), s = Option.some a ∧ ∃ (S : World → Prop), S (World.drew w) ∧ ∃ (x : Option Addr), (∀ (u :
 World), S u → World.cell? u (Addr.add a (0 : Nat)) = Option.some (Value.pointer x)) ∧ ∃ (x_6 : Option Addr), (∀ (u : World), S u → World.cell? u (Addr.add (Addr.mk g (0 :
 Nat) Option.none) (0 : Nat)) = Option.some (Value.pointer x_6)) ∧ CallsV Try.prog (75 : Nat) #[Value.pointer x, Value.pointer x_6] (World.drew w) fun (v : Value) (w' :
 World) => ∃ (x : Int), v = Value.int IntKind.i64 x ∧ K (Value.int IntKind.i64 x) w') ∧ ∃ (S : World → Prop), S (World.drew w') ∧ ∃ (x : Option Addr), ∃ (x_6 : Nat), ∃ (x_7 :
 Nat), (∀ (u : World), S u → World.cell? u (Addr.add (Addr.mk g (0 : Nat) Option.none) (1 : Nat)) = Option.some (Value.slice x x_6 x_7)) ∧ ∃ (a : Addr), s = Option.some a ∧ ∃ (x_8 :
 Option Addr), ∃ (x_9 : Nat), ∃ (x_10 : Nat), (∀ (u : World), S u → World.cell? u (Addr.add a (2 : Nat)) = Option.some (Value.slice x_8 x_9 x_10)) ∧ ((0 : Int) ≤ IntKind.wrap
 IntKind.i64 (n - (1 : Int)) ∧ IntKind.wrap IntKind.i64 (n - (1 : Int)) ≤ (↑x_10 : Int)) ∧ ∃ (a : Addr), s = Option.some a ∧ stOK (Addr.add a (1 : Nat)) (0 : Nat) [Value.slice x
 x_6 x_7] (World.drew w') ∧ ∀ (w'_2 : World), w'_2 = setAll (Addr.add a (1 : Nat)) (0 : Nat) [Value.slice x x_6 x_7] (World.drew w') → ∃ (a : Addr), s = Option.some a ∧
 stOK (Addr.add a (2 : Nat)) (0 : Nat) [Value.slice (cutAt x_8 x_10 (0 : Nat) (2 : Nat)) (Int.toNat (IntKind.wrap IntKind.i64 (n - (1 : Int))) - (0 : Nat)) (x_10 - (0 : Nat))]
 w'_2 ∧ ∀ (w' : World), w' = setAll (Addr.add a (2 : Nat)) (0 : Nat) [Value.slice (cutAt x_8 x_10 (0 : Nat) (2 : Nat)) (Int.toNat (IntKind.wrap IntKind.i64 (n - (1 : Int))) -
 (0 : Nat)) (x_10 - (0 : Nat))] w'_2 → J w'
theorem undo_Store_Back.eq (s : Option Addr) (n : Int) (w : World) (K : Value → World → Prop) : undo_Store_Back.W s n w K = fnW Try.prog Try.f25 (.named (.seq .auto (.seq .auto (.seq .auto (.join [] .auto .auto))))) [.pointer s, .int .i64 n] w K := by kernel_rfl
theorem undo_Store_Back.calls (ok : Okay Try.prog) {s : Option Addr} {n : Int} {w : World} {K : Value → World → Prop} (h : undo_Store_Back.W s n w K) : CallsV Try.prog 25 #[.pointer s, .int .i64 n] w K :=
  fnW_calls ok Try.func25 (an := (.named (.seq .auto (.seq .auto (.seq .auto (.join [] .auto .auto)))))) (args := [.pointer s, .int .i64 n]) (by rw [← undo_Store_Back.eq]; exact h)
noncomputable def undo_Store_Free.W : Option Addr → Int → World → (Value → World → Prop) → Prop := fun (s : Option Addr) (n : Int) (w : World) (K : Value → World → Prop) => CallsV
 Try.prog (73 : Nat) #[Value.pointer s, Value.int IntKind.i64 n] w fun (v : Value) (w' : World) => ∃ (x : Int), v = Value.int IntKind.i64 x ∧ bif !Decidable.decide (x = (0
 : Int)) then K (Value.int IntKind.i64 x) w' else ∃ (a : Addr), s = Option.some a ∧ ∃ (x : Option Addr), ∃ (x_1 : Nat), ∃ (x_2 : Nat), World.cell? w' (Addr.add a (2 : Nat)) =
 Option.some (Value.slice x x_1 x_2) ∧ ((0 : Int) ≤ IntKind.wrap IntKind.i64 (n - (1 : Int)) ∧ IntKind.wrap IntKind.i64 (n - (1 : Int)) ≤ (↑x_2 : Int)) ∧ ∃ (a : Addr), s = Option.some
 a ∧ stOK (Addr.add a (2 : Nat)) (0 : Nat) [Value.slice (cutAt x x_2 (0 : Nat) (2 : Nat)) (Int.toNat (IntKind.wrap IntKind.i64 (n - (1 : Int))) - (0 : Nat)) (x_2 - (0 : Nat))] w'
 ∧ ∀ (w'_1 : World), w'_1 = setAll (Addr.add a (2 : Nat)) (0 : Nat) [Value.slice (cutAt x x_2 (0 : Nat) (2 : Nat)) (Int.toNat (IntKind.wrap IntKind.i64 (n - (1 : Int))) - (0 :
 Nat)) (x_2 - (0 : Nat))] w' → K (Value.int IntKind.i64 (0 : Int)) w'_1
theorem undo_Store_Free.eq (s : Option Addr) (n : Int) (w : World) (K : Value → World → Prop) : undo_Store_Free.W s n w K = fnW Try.prog Try.f19 (.named .auto) [.pointer s, .int .i64 n] w K := by kernel_rfl
theorem undo_Store_Free.calls (ok : Okay Try.prog) {s : Option Addr} {n : Int} {w : World} {K : Value → World → Prop} (h : undo_Store_Free.W s n w K) : CallsV Try.prog 19 #[.pointer s, .int .i64 n] w K :=
  fnW_calls ok Try.func19 (an := (.named .auto)) (args := [.pointer s, .int .i64 n]) (by rw [← undo_Store_Free.eq]; exact h)
noncomputable def undo_Store_Marks.W : Option Addr → World → (Value → World → Prop) → Prop := fun (s : Option Addr) (w : World) (K : Value → World → Prop) => bif Option.isNone s then K
 (Value.int IntKind.i64 (0 : Int)) w else ∃ (a : Addr), s = Option.some a ∧ ∃ (x : Option Addr), ∃ (x_1 : Nat), ∃ (x_2 : Nat), World.cell? w (Addr.add a (2 : Nat)) = Option.some
 (Value.slice x x_1 x_2) ∧ K (Value.int IntKind.i64 (↑x_1 : Int)) w
theorem undo_Store_Marks.eq (s : Option Addr) (w : World) (K : Value → World → Prop) : undo_Store_Marks.W s w K = fnW Try.prog Try.f24 (.named .auto) [.pointer s] w K := by kernel_rfl
theorem undo_Store_Marks.calls (ok : Okay Try.prog) {s : Option Addr} {w : World} {K : Value → World → Prop} (h : undo_Store_Marks.W s w K) : CallsV Try.prog 24 #[.pointer s] w K :=
  fnW_calls ok Try.func24 (an := (.named .auto)) (args := [.pointer s]) (by rw [← undo_Store_Marks.eq]; exact h)
noncomputable def undo_Store_Drop_1.W : Int → Addr → World → (Value → World → Prop) → Prop := fun (x : Int) (a1 : Addr) (w : World) (K : Value → World → Prop) => ∃ (x_1 : Int),
 World.cell? w a1 = Option.some (Value.int IntKind.i64 x_1) ∧ K (Value.bool (Decidable.decide (x = x_1))) w
theorem undo_Store_Drop_1.eq (x : Int) (a1 : Addr) (w : World) (K : Value → World → Prop) : undo_Store_Drop_1.W x a1 w K = fnW Try.prog Try.f81 (.named .auto) [.int .i64 x, .pointer (some a1)] w K := by kernel_rfl
theorem undo_Store_Drop_1.calls (ok : Okay Try.prog) {x : Int} {a1 : Addr} {w : World} {K : Value → World → Prop} (h : undo_Store_Drop_1.W x a1 w K) : CallsV Try.prog 81 #[.int .i64 x, .pointer (some a1)] w K :=
  fnW_calls ok Try.func81 (an := (.named .auto)) (args := [.int .i64 x, .pointer (some a1)]) (by rw [← undo_Store_Drop_1.eq]; exact h)
end Go.Proofs.Ythfagbfllheneaa
/- The preconditions of Go functions, printed by a program of this workplace (nests.py); each is proved to be the engine's own. -/
set_option linter.unusedVariables false
set_option maxRecDepth 100000
namespace Go.Proofs.Ythfagbfllheneaa
open Go Go.Sx
noncomputable def slices_DeleteFunc_int_int.W : Option Addr → Nat → Nat → Value → World → (Value → World → Prop) → Prop := fun (s_A : Option Addr) (s_n s_c : Nat) (del : Value) (w : World) (K
 : Value → World → Prop) => CallsV Try.prog (118 : Nat) #[Value.slice s_A s_n s_c, del] w fun (v : Value) (w' : World) => ∃ (x : Int), v = Value.int IntKind.i64 x ∧
 bif Decidable.decide (x = (-1 : Int)) then K (Value.slice s_A s_n s_c) w' else ∃ (I : Int → Int → World → Prop), ∃ (μ : Int → Int → World → Nat), I x (IntKind.wrap IntKind.i64 (x + (1 :
 Int))) w' ∧ ∀ (x x_1 : Int) (w : World), I x x_1 w → bif Decidable.decide (x_1 < (↑s_n : Int)) then ∃ (ad : Addr), s_A = Option.some ad ∧ ((0 : Int) ≤ x_1 ∧ x_1 < (↑s_n : Int)) ∧ ∃ (x_2 : Int),
 World.cell? w (Addr.add ad (Int.toNat x_1 * (1 : Nat))) = Option.some (Value.int IntKind.i64 x_2) ∧ ∃ (fid : Nat), ∃ (first : Array Value), ∃ (captured : Array Value), del =
 Value.func (Fn.func fid) first captured ∧ bodied Try.prog fid = Bool.true ∧ CallsV Try.prog fid (List.toArray (Array.toList first ++ ([Value.int IntKind.i64
 x_2] ++ Array.toList captured))) w fun (r : Value) (w' : World) => ∃ (x_3 : Bool), r = Value.bool x_3 ∧ bif !x_3 then ∃ (ad : Addr), s_A = Option.some ad ∧ ((0 : Int) ≤ x ∧ x < (↑s_n :
 Int)) ∧ stOK (Addr.add ad (Int.toNat x * (1 : Nat))) (0 : Nat) [Value.int IntKind.i64 x_2] w' ∧ ∀ (w'_1 : World), w'_1 = setAll (Addr.add ad (Int.toNat x * (1 : Nat))) (0 :
 Nat) [Value.int IntKind.i64 x_2] w' → I (IntKind.wrap IntKind.i64 (x + (1 : Int))) (IntKind.wrap IntKind.i64 (x_1 + (1 : Int))) w'_1 ∧ μ (IntKind.wrap IntKind.i64 (x + (1 :
 Int))) (IntKind.wrap IntKind.i64 (x_1 + (1 : Int))) w'_1 < μ x x_1 w else I x (IntKind.wrap IntKind.i64 (x_1 + (1 : Int))) w' ∧ μ x (IntKind.wrap IntKind.i64 (x_1 + (1 : Int))) w' < μ
 x x_1 w else ((0 : Int) ≤ x ∧ x ≤ (↑s_n : Int)) ∧ ∃ (w' : World), RunsTo Try.prog (Builtin.clear_ (Array.mk [(37 : Nat)]) (0 : Nat) #[Value.slice (cutAt s_A s_c
 (Int.toNat x) (1 : Nat)) (s_n - Int.toNat x) (s_c - Int.toNat x)]) w (Value.tuple #[]) w' ∧ ((0 : Int) ≤ x ∧ x ≤ (↑s_c : Int)) ∧ K (Value.slice (cutAt s_A s_c (0 : Nat) (1 : Nat))
 (Int.toNat x - (0 : Nat)) (s_c - (0 : Nat))) w'
theorem slices_DeleteFunc_int_int.eq (s_A : Option Addr) (s_n : Nat) (s_c : Nat) (del : Value) (w : World) (K : Value → World → Prop) : slices_DeleteFunc_int_int.W s_A s_n s_c del w K = fnW Try.prog Try.f80 (.named (.named (.seq .auto (.seq .auto (.seq .auto (.seq (.seq .auto (.block (.loop [(5, .one (.int .i64)), (6, .one (.int .i64))] .auto))) .auto)))))) [.slice s_A s_n s_c, del] w K := by kernel_rfl
theorem slices_DeleteFunc_int_int.calls (ok : Okay Try.prog) {s_A : Option Addr} {s_n : Nat} {s_c : Nat} {del : Value} {w : World} {K : Value → World → Prop} (h : slices_DeleteFunc_int_int.W s_A s_n s_c del w K) : CallsV Try.prog 80 #[.slice s_A s_n s_c, del] w K :=
  fnW_calls ok Try.func80 (an := (.named (.named (.seq .auto (.seq .auto (.seq .auto (.seq (.seq .auto (.block (.loop [(5, .one (.int .i64)), (6, .one (.int .i64))] .auto))) .auto))))))) (args := [.slice s_A s_n s_c, del]) (by rw [← slices_DeleteFunc_int_int.eq]; exact h)
noncomputable def slices_IndexFunc_int_int.W : Option Addr → Nat → Nat → Value → World → (Value → World → Prop) → Prop := fun (s_A : Option Addr) (s_n s_c : Nat) (f : Value) (w : World) (K :
 Value → World → Prop) => ∃ (I : Int → World → Prop), ∃ (μ : Int → World → Nat), I (0 : Int) w ∧ ∀ (x : Int) (w : World), I x w → bif Decidable.decide (x < (↑s_n : Int)) then ∃ (ad :
 Addr), s_A = Option.some ad ∧ ((0 : Int) ≤ x ∧ x < (↑s_n : Int)) ∧ ∃ (x_1 : Int), World.cell? w (Addr.add ad (Int.toNat x * (1 : Nat))) = Option.some (Value.int IntKind.i64 x_1) ∧ ∃ (fid
 : Nat), ∃ (first : Array Value), ∃ (captured : Array Value), f = Value.func (Fn.func fid) first captured ∧ bodied Try.prog fid = Bool.true ∧ CallsV Try.prog
 fid (List.toArray (Array.toList first ++ ([Value.int IntKind.i64 x_1] ++ Array.toList captured))) w fun (r : Value) (w' : World) => ∃ (x_2 : Bool), r = Value.bool x_2 ∧ bif x_2 then K
 (Value.int IntKind.i64 x) w' else I (IntKind.wrap IntKind.i64 (x + (1 : Int))) w' ∧ μ (IntKind.wrap IntKind.i64 (x + (1 : Int))) w' < μ x w else K (Value.int IntKind.i64 (-1 :
 Int)) w
theorem slices_IndexFunc_int_int.eq (s_A : Option Addr) (s_n : Nat) (s_c : Nat) (f : Value) (w : World) (K : Value → World → Prop) : slices_IndexFunc_int_int.W s_A s_n s_c f w K = fnW Try.prog Try.f118 (.named (.named (.seq .auto (.seq (.seq .auto (.block (.loop [(8, .one (.int .i64))] .auto))) .auto)))) [.slice s_A s_n s_c, f] w K := by kernel_rfl
theorem slices_IndexFunc_int_int.calls (ok : Okay Try.prog) {s_A : Option Addr} {s_n : Nat} {s_c : Nat} {f : Value} {w : World} {K : Value → World → Prop} (h : slices_IndexFunc_int_int.W s_A s_n s_c f w K) : CallsV Try.prog 118 #[.slice s_A s_n s_c, f] w K :=
  fnW_calls ok Try.func118 (an := (.named (.named (.seq .auto (.seq (.seq .auto (.block (.loop [(8, .one (.int .i64))] .auto))) .auto))))) (args := [.slice s_A s_n s_c, f]) (by rw [← slices_IndexFunc_int_int.eq]; exact h)
end Go.Proofs.Ythfagbfllheneaa
/- Layer 5: Go's IndexFunc and DeleteFunc, of numbers. -/
set_option linter.unusedVariables false
set_option linter.unusedSimpArgs false
namespace Go.Proofs.Ythfagbfllheneaa
open Go Go.Sx T4
abbrev KI : Kd Int := Kd.int .i64
theorem KI_pos : 0 < KI.size := by decide
theorem oneI : One KI := ⟨rfl, fun h v hv => by cases h; simp at hv; subst hv; rfl⟩
theorem itemI {Ω : Nat → Prop} {w : World} {A : Option Addr} {l : List Int} (h : Imm KI Ω w A l) {j : Nat} (hj : j < l.length) : ∃ ad, A = some ad ∧ w.cell? (ad.add (j * 1)) = some (.int .i64 l[j]) := by
  obtain ⟨ad, hA, _, cs, hr, hv⟩ := h j l[j] (List.getElem?_eq_getElem hj)
  exact ⟨ad, hA, hv 0 _ (by rw [show cs = [.int .i64 l[j]] from hr]; rfl)⟩
/-- the closure of Drop -/
theorem same_spec {w : World} {b : Nat} {id : Int} (hb : Blk w b [.int .i64 id]) (x : Int) : CallsV Try.prog 81 #[.int .i64 x, .pointer (some ⟨b, 0, none⟩)] w fun r w' => r = .bool (decide (x = id)) ∧ w' = w := by
  refine undo_Store_Drop_1.calls okay ?_
  unfold undo_Store_Drop_1.W
  exact ⟨_, hb.cell0 rfl, rfl, rfl⟩
abbrev sameF (b : Nat) : Value := .func (.func 81) #[] #[.pointer (some ⟨b, 0, none⟩)]
theorem IndexFunc_spec {w : World} {Ω : Nat → Prop} {A : Option Addr} {c : Nat} {l : List Int} (h : Imm KI Ω w A l) (hl : l.length ≤ 1000000) {b : Nat} {id : Int} (hb : Blk w b [.int .i64 id]) :
    CallsV Try.prog 118 #[.slice A l.length c, sameF b] w fun r w' => w' = w ∧ ((r = .int .i64 (-1) ∧ ∀ x ∈ l, x ≠ id) ∨ ∃ j : Nat, r = iv j ∧ j < l.length ∧ l[j]? = some id ∧ ∀ k x, l[k]? = some x → k < j → x ≠ id) := by
  refine slices_IndexFunc_int_int.calls okay ?_
  unfold slices_IndexFunc_int_int.W
  refine ⟨fun x u => u = w ∧ ∃ j : Nat, x = (j : Int) ∧ j ≤ l.length ∧ ∀ k x, l[k]? = some x → k < j → x ≠ id, fun x _ => (l.length - x).toNat, ⟨rfl, 0, rfl, Nat.zero_le _, fun k x _ h => by omega⟩, ?_⟩
  rintro _ u ⟨hu, j, rfl, hj, hno⟩
  obtain rfl : w = u := hu.symm
  refine brd (fun hlt => ?_) (fun hge => ?_)
  · have hjl : j < l.length := by omega
    obtain ⟨ad, hA, hc⟩ := itemI h hjl
    refine ⟨ad, hA, ⟨by omega, by omega⟩, _, by rw [Int.toNat_natCast]; exact hc, _, _, _, rfl, by kernel_rfl, (same_spec hb _).same ⟨_, rfl, ?_⟩⟩
    refine brd (fun he => ⟨rfl, .inr ⟨j, rfl, hjl, by rw [List.getElem?_eq_getElem hjl, he], hno⟩⟩) (fun hne => ?_)
    rw [wi _ (by omega) (by omega)]
    refine ⟨⟨rfl, j + 1, by omega, by omega, fun k x hk hlt => ?_⟩, by dsimp only; omega⟩
    rcases Nat.lt_or_ge k j with h | h
    · exact hno k x hk h
    · obtain rfl : k = j := by omega
      rw [List.getElem?_eq_getElem hjl] at hk; cases hk; exact hne
  · refine ⟨rfl, .inl ⟨rfl, fun x hx => ?_⟩⟩
    obtain ⟨k, hk, rfl⟩ := List.mem_iff_getElem.1 hx
    exact hno k _ (List.getElem?_eq_getElem hk) (by omega)
theorem filter_all {l : List Int} {id : Int} (h : ∀ x ∈ l, x ≠ id) : l.filter (fun x => !decide (x = id)) = l := List.filter_eq_self.2 fun x hx => by simp [h x hx]
theorem DeleteFunc_spec {w : World} {A : Option Addr} {c : Nat} {l : List Int} (h : OwnK KI w A c l) (hl : l.length ≤ 1000000) {b : Nat} {id : Int} (hb : Blk w b [.int .i64 id]) (hAb : ¬ ownB A b) :
    CallsV Try.prog 80 #[.slice A l.length c, sameF b] w fun r w' => r = .slice A (l.filter (fun x => !decide (x = id))).length c ∧ OwnK KI w' A c (l.filter (fun x => !decide (x = id))) ∧ Fr (ownB A) w w' := by
  refine slices_DeleteFunc_int_int.calls okay ?_
  unfold slices_DeleteFunc_int_int.W
  refine (IndexFunc_spec (h.imm KI_pos) hl hb).mono ?_
  rintro r w' ⟨hw', hr⟩
  obtain rfl : w = w' := hw'.symm
  rcases hr with ⟨rfl, hno⟩ | ⟨i0, rfl, hi0, hid, hno⟩
  · exact ⟨_, rfl, brd (fun _ => by rw [filter_all hno]; exact ⟨rfl, h, .refl _ _⟩) fun h => absurd rfl h⟩
  · refine ⟨_, rfl, brd (fun h => by omega) fun _ => ?_⟩
    have hle : ∀ j, ((l.take j).filter (fun x => !decide (x = id))).length ≤ j := fun j => by
      have := List.length_filter_le (fun x => !decide (x = id)) (l.take j)
      rw [List.length_take] at this; omega
    have hpre : (l.take (i0 + 1)).filter (fun x => !decide (x = id)) = l.take i0 := by
      rw [List.take_add_one, hid, List.filter_append, filter_all (l := l.take i0) fun x hx => by
        obtain ⟨k, hk, rfl⟩ := List.mem_iff_getElem.1 hx
        rw [List.length_take] at hk
        rw [List.getElem_take]
        exact hno k _ (List.getElem?_eq_getElem (by omega)) (by omega)]
      simp
    refine ⟨fun x y u => ∃ (i j : Nat) (m : List Int), x = (i : Int) ∧ y = (j : Int) ∧ i < j ∧ j ≤ l.length ∧ m.length = l.length ∧ i = ((l.take j).filter (fun x => !decide (x = id))).length ∧ m.take i = (l.take j).filter (fun x => !decide (x = id)) ∧ m.drop j = l.drop j ∧ OwnK KI u A c m ∧ Fr (ownB A) w u, fun _ y _ => (l.length - y).toNat, ?_, ?_⟩
    · rw [wi _ (by omega) (by omega)]
      exact ⟨i0, i0 + 1, l, rfl, by omega, by omega, by omega, rfl, by rw [hpre, List.length_take]; omega, hpre.symm, rfl, h, .refl _ _⟩
    · rintro _ _ u ⟨i, j, m, rfl, rfl, hij, hj, hm, hi, htk, hdr, hO, hF⟩
      refine brd (fun hlt => ?_) (fun hge => ?_)
      · have hjl : j < l.length := by omega
        obtain ⟨ad, hA, hc⟩ := itemI (hO.imm KI_pos) (j := j) (by omega)
        have hmj : m[j]'(by omega) = l[j] := by
          have h1 : (m.drop j)[0]? = (l.drop j)[0]? := by rw [hdr]
          rw [List.getElem?_drop, List.getElem?_drop, Nat.add_zero, List.getElem?_eq_getElem (show j < m.length by omega), List.getElem?_eq_getElem hjl] at h1
          exact Option.some.inj h1
        rw [hmj] at hc
        have hbu : Blk u b [.int .i64 id] := hb.keep hF hAb
        refine ⟨ad, hA, ⟨by omega, by omega⟩, _, by rw [Int.toNat_natCast]; exact hc, _, _, _, rfl, by kernel_rfl, (same_spec hbu _).same ⟨_, rfl, ?_⟩⟩
        have hnext : (l.take (j + 1)).filter (fun x => !decide (x = id)) = (l.take j).filter (fun x => !decide (x = id)) ++ (if l[j] = id then [] else [l[j]]) := by
          rw [List.take_add_one, List.getElem?_eq_getElem hjl, List.filter_append]
          by_cases he : l[j] = id
          · rw [if_pos he]; simp [he]
          · rw [if_neg he]; simp [he]
        have hdr' : m.drop (j + 1) = l.drop (j + 1) := by rw [← List.drop_drop, ← List.drop_drop (l := l), hdr]
        refine brnb (fun hne => ?_) (fun he => ?_)
        · have hne : ¬ l[j] = id := of_decide_eq_false hne
          rw [if_neg hne] at hnext
          have hil : i < m.length := by omega
          obtain ⟨gA, hgA, hcell⟩ := hO.blk KI_pos hil
          rw [hA] at hgA
          cases hgA
          have hz := hcell 0 (by decide)
          have hset := hO.set (fun _ _ _ h => h) hil (a := l[j]) (cs := [.int .i64 l[j]]) rfl hA
          have hadr : ((⟨gA, 0, none⟩ : Addr).add (i * 1)) = ⟨gA, i * KI.size, none⟩ := by rw [add_new, Nat.zero_add]; rfl
          rw [wi ((i : Int) + 1) (by omega) (by omega), wi ((j : Int) + 1) (by omega) (by omega)]
          refine ⟨_, hA, ⟨by omega, by omega⟩, by rw [Int.toNat_natCast, hadr]; exact ⟨by simpa [add_zero'] using hz.1, by simpa [add_zero'] using hz.2⟩, fun u' hu' => ?_⟩
          rw [Int.toNat_natCast, hadr] at hu'
          subst hu'
          refine ⟨⟨i + 1, j + 1, m.set i l[j], by omega, by omega, by omega, by omega, by simpa using hm, ?_, ?_, ?_, hset, hF.trans (Fr.setAll _ _ _) (fun _ _ h => h) (fun k _ e => by rw [hA, ownB_some]; exact e.symm)⟩, by dsimp only; omega⟩
          · rw [hnext, List.length_append, ← hi]; rfl
          · rw [hnext, ← htk, List.take_add_one, List.getElem?_set_self hil, List.take_set_of_le (Nat.le_refl i)]; rfl
          · rw [List.drop_set_of_lt (by omega)]; exact hdr'
        · have he : l[j] = id := of_decide_eq_true he
          rw [if_pos he, List.append_nil] at hnext
          rw [wi ((j : Int) + 1) (by omega) (by omega)]
          exact ⟨⟨i, j + 1, m, rfl, by omega, by omega, by omega, hm, by rw [hnext]; exact hi, by rw [hnext]; exact htk, hdr', hO, hF⟩, by dsimp only; omega⟩
      · obtain rfl : j = l.length := by omega
        rw [List.take_length] at hi htk
        obtain ⟨u', hr', ho', f'⟩ := clear_own (P := Try.prog) slI (fun v hv => by simp at hv; subst hv; rfl) (ty := 0) hO (fun _ _ _ h => h) (k := i) (by omega) (c - i)
        rw [hm] at hr'
        have hc := hO.imm
        have hile : i ≤ c := by obtain ⟨xs, ho, _⟩ := hO; have := ho.le; omega
        refine ⟨⟨by omega, by omega⟩, u', by rw [Int.toNat_natCast]; exact hr', ⟨by omega, by omega⟩, ?_, ?_, hF.trans f' (fun _ _ h => h) (fun _ _ h => h)⟩
        · rw [cutAt_zero, Int.toNat_natCast, Nat.sub_zero, Nat.sub_zero, hi]
        · rw [← htk]; exact ho'
end Go.Proofs.Ythfagbfllheneaa
/- Layer 5: a store in memory. -/
set_option linter.unusedVariables false
set_option linter.unusedSimpArgs false
namespace Go.Proofs.Ythfagbfllheneaa
open Go Go.Sx T4
def idsD (D : List Tr) : List Int := D.map fun d => d.r
theorem idsD_len (D : List Tr) : (idsD D).length = D.length := by simp [idsD]
/-- a mark: what was saved, the trees' numbers; the trees then -/
structure Mk where
  sb : Nat
  MA : Option Addr
  mc : Nat
  A : Ar
  D : List Tr
def mkC (a : Mk) : List Value := [.pointer (some ⟨a.sb, 0, none⟩), .slice a.MA (idsD a.D).length a.mc]
def KMk : Kd Mk := ⟨2, fun _ _ a cs => cs = mkC a, fun h => by simp [h, mkC], fun h _ => h⟩
theorem KMk_pos : 0 < KMk.size := by decide
theorem slM : SlT Try.prog 79 122 2 32 [.pointer none, .slice none 0 0] := ⟨by kernel_rfl, ⟨Try.t122, by kernel_rfl, by kernel_rfl, by kernel_rfl, .agg #[.pointer none, .slice none 0 0], by kernel_rfl, by kernel_rfl⟩, rfl, by decide⟩
/-- a store: its arena and trees, and those at each mark -/
structure Ab where
  A : Ar
  D : List Tr
  ms : List (Ar × List Tr)
structure StoA (T : Nat → Prop) (u : World) (s : Nat) (q : Ab) (g : Nat) (R M : Nat → Prop) (IA : Option Addr) (ic : Nat) (X : Option Addr) (xc : Nat) (L : List Mk) (idl : List Int) : Prop where
  ar : Ar1 R M u g q.A
  inv : Inv q.A q.D
  blk : Blk u s [.pointer (some ⟨g, 0, none⟩), .slice IA idl.length ic, .slice X L.length xc]
  rT : ∀ k, R k → T k
  sT : T s
  iT : ∀ k, ownB IA k → T k
  xT : ∀ k, ownB X k → T k
  mT : ∀ x ∈ L, ∀ k, ownB x.MA k → T k
  tlt : ∀ k, T k → k < u.heap.size
  sR : ¬ R s
  iO : ∀ k, ownB IA k → ¬ R k ∧ k ≠ s
  xO : ∀ k, ownB X k → ¬ R k ∧ k ≠ s ∧ ¬ ownB IA k
  mO : ∀ x ∈ L, ∀ k, ownB x.MA k → ¬ R k ∧ k ≠ s ∧ ¬ ownB IA k ∧ ¬ ownB X k
  mD : L.Pairwise fun a b => ∀ k, ownB a.MA k → ¬ ownB b.MA k
  ids : OwnK KI u IA ic idl
  marks : OwnK KMk u X xc L
  good : ∀ x ∈ L, Sv1 (Om R M) u x.sb g x.A ∧ Inv x.A x.D ∧ x.A.fan = q.A.fan ∧ x.A.most = q.A.most ∧ OwnK KI u x.MA x.mc (idsD x.D)
  ms : L.map (fun x => (x.A, x.D)) = q.ms
  cnt : L.length ≤ 100
/-- what a call upon a store does to memory -/
structure Tch (T : Nat → Prop) (u : World) (T' : Nat → Prop) (u' : World) : Prop where
  fr : Fr T u u'
  sub : ∀ k, T' k → T k ∨ u.heap.size ≤ k
theorem Tch.refl (T : Nat → Prop) (u : World) : Tch T u T u := ⟨.refl _ _, fun _ h => .inl h⟩
theorem Tch.ext {T : Nat → Prop} {u u' : World} (e : Ext u u') : Tch T u T u' := ⟨e.fr, fun _ h => .inl h⟩
theorem Tch.trans {T T' T'' : Nat → Prop} {u u' u'' : World} (h : Tch T u T' u') (h' : Tch T' u' T'' u'') : Tch T u T'' u'' :=
  ⟨h.fr.trans h'.fr (fun _ _ h => h) (fun k hk ht => (h.sub k ht).resolve_right (by omega)), fun k hk => (h'.sub k hk).elim (h.sub k) fun h2 => .inr (Nat.le_trans h.fr.size h2)⟩
theorem Tch.keepExt {T T' : Nat → Prop} {w0 u u' : World} (c : Tch T u T' u') (e : Ext w0 u) (hT : ∀ k, T k → w0.heap.size ≤ k) : Ext w0 u' ∧ ∀ k, T' k → w0.heap.size ≤ k :=
  ⟨e.trans c.fr (fun _ _ h => h) (fun k hk ht => by have := hT k ht; omega), fun k hk => (c.sub k hk).elim (hT k) fun h => Nat.le_trans e.size h⟩
theorem Tch.blk {T T' : Nat → Prop} {u u' : World} (c : Tch T u T' u') {k : Nat} {cs : List Value} (hb : Blk u k cs) (hk : ¬ T k) : Blk u' k cs ∧ ¬ T' k := ⟨hb.keep c.fr hk, fun h => (c.sub k h).elim hk fun h2 => by have := hb.lt; omega⟩
section
variable {T : Nat → Prop} {u : World} {s : Nat} {q : Ab} {g : Nat} {R M : Nat → Prop} {IA : Option Addr} {ic : Nat} {X : Option Addr} {xc : Nat} {L : List Mk} {idl : List Int}
theorem StoA.frame (h : StoA T u s q g R M IA ic X xc L idl) {S : Nat → Prop} {u' : World} (f : Fr S u u') (hS : ∀ k, k < u.heap.size → S k → ¬ T k) : StoA T u' s q g R M IA ic X xc L idl := by
  have off : ∀ k, T k → ¬ S k := fun k ht hs => hS k (h.tlt k ht) hs ht
  refine ⟨h.ar.frame f fun k hk hs hr => hS k hk hs (h.rT k hr), h.inv, h.blk.keep f (off s h.sT), h.rT, h.sT, h.iT, h.xT, h.mT, fun k hk => Nat.lt_of_lt_of_le (h.tlt k hk) f.size, h.sR, h.iO, h.xO, h.mO, h.mD, h.ids.fr f (fun k hk => off k (h.iT k hk)) (fun _ _ _ h => h), h.marks.fr f (fun k hk => off k (h.xT k hk)) (fun _ _ _ h => h), fun x hx => ?_, h.ms, h.cnt⟩
  obtain ⟨g1, g2, g3, g4, g5⟩ := h.good x hx
  exact ⟨g1.keep (f.step (fun k hk hs => .inl fun hr => hS k hk hs (h.rT k hr)) (fun _ _ h => h)), g2, g3, g4, g5.fr f (fun k hk => off k (h.mT x hx k hk)) (fun _ _ _ h => h)⟩
theorem StoA.ext (h : StoA T u s q g R M IA ic X xc L idl) {u' : World} (e : Ext u u') : StoA T u' s q g R M IA ic X xc L idl := h.frame e fun _ _ h => h.elim
/-- the arena's call -/
theorem StoA.chg (h : StoA T u s q g R M IA ic X xc L idl) {u' : World} {A' : Ar} {D' : List Tr} {R' M' : Nat → Prop} (h' : Ar1 R' M' u' g A') (c : Chg R M u R' M' u') (hI : Inv A' D') (h1 : A'.fan = q.A.fan) (h2 : A'.most = q.A.most) :
    ∃ T', StoA T' u' s ⟨A', D', q.ms⟩ g R' M' IA ic X xc L idl ∧ Tch T u T' u' := by
  have mr := h.ar.mr
  have off : ∀ {k}, ¬ R k → ¬ M k := fun hr hm => hr (mr _ hm)
  have hs := c.fr.size
  refine ⟨fun k => T k ∨ R' k, ⟨h', hI, h.blk.keep c.fr (off h.sR), fun k hk => .inr hk, .inl h.sT, fun k hk => .inl (h.iT k hk), fun k hk => .inl (h.xT k hk), fun x hx k hk => .inl (h.mT x hx k hk), fun k hk => ?_, c.off h.blk.lt h.sR, fun k hk => ⟨c.off (h.ids.lt k hk) (h.iO k hk).1, (h.iO k hk).2⟩, fun k hk => ⟨c.off (h.marks.lt k hk) (h.xO k hk).1, (h.xO k hk).2⟩, fun x hx k hk => ⟨c.off (h.tlt k (h.mT x hx k hk)) (h.mO x hx k hk).1, (h.mO x hx k hk).2⟩, h.mD, h.ids.fr c.fr (fun k hk => off (h.iO k hk).1) (fun _ _ _ h => h), h.marks.fr c.fr (fun k hk => off (h.xO k hk).1) (fun _ _ _ h => h), fun x hx => ?_, h.ms, h.cnt⟩, ⟨c.fr.mono fun k _ hm => h.rT k (mr k hm), fun k hk => ?_⟩⟩
  · rcases hk with hk | hk
    · have := h.tlt k hk; omega
    · exact h'.lt k hk
  · obtain ⟨g1, g2, g3, g4, g5⟩ := h.good x hx
    exact ⟨g1.keep c.step, g2, g3.trans h1.symm, g4.trans h2.symm, g5.fr c.fr (fun k hk => off (h.mO x hx k hk).1) (fun _ _ _ h => h)⟩
  · rcases hk with hk | hk
    · exact .inl hk
    · exact (c.r' k hk).imp (h.rT k) id
/-- other numbers -/
theorem StoA.setIds (h : StoA T u s q g R M IA ic X xc L idl) {u' : World} {IA' : Option Addr} {ic' : Nat} {idl' : List Int} (ho : OwnK KI u' IA' ic' idl') (gr : Grew IA IA' u u') :
    stOK ((⟨s, 0, none⟩ : Addr).add 1) 0 [.slice IA' idl'.length ic'] u' ∧ ∀ u2, u2 = setAll ((⟨s, 0, none⟩ : Addr).add 1) 0 [.slice IA' idl'.length ic'] u' → ∃ T', StoA T' u2 s q g R M IA' ic' X xc L idl' ∧ Tch T u T' u2 := by
  have bs := h.blk.keep gr.fr (fun hk => (h.iO _ hk).2 rfl)
  obtain ⟨p1, p2⟩ := setF bs (o := 1) (by simp) (.slice IA' idl'.length ic')
  refine ⟨p1, fun u2 hu => ?_⟩
  obtain ⟨b2, f2⟩ := p2 u2 hu
  have hsz := gr.fr.size
  have hsz2 := f2.size
  -- both steps at once
  have f : Fr (fun k => ownB IA k ∨ k = s) u u2 := (gr.fr.mono fun _ _ h => .inl h).trans f2 (fun _ _ h => h) (fun _ _ h => .inr h)
  have isT : ∀ k, ownB IA k ∨ k = s → T k := fun k hk => hk.elim (h.iT k) fun e => e ▸ h.sT
  have notR : ∀ k, ownB IA k ∨ k = s → ¬ R k := fun k hk => hk.elim (fun hk => (h.iO k hk).1) fun e => e ▸ h.sR
  have new : ∀ k, ownB IA' k → ownB IA k ∨ u.heap.size ≤ k := gr.sub
  have hsl := h.blk.lt
  refine ⟨fun k => T k ∨ ownB IA' k, ⟨h.ar.frame f fun k _ hk => notR k hk, h.inv, by simpa using b2, fun k hk => .inl (h.rT k hk), .inl h.sT, fun k hk => .inr hk, fun k hk => .inl (h.xT k hk), fun x hx k hk => .inl (h.mT x hx k hk), fun k hk => ?_, h.sR, fun k hk => ?_, fun k hk => ?_, fun x hx k hk => ?_, h.mD, ho.fr f2 (fun k hk e => ?_) (fun _ _ _ h => h), h.marks.fr f (fun k hk hk' => hk'.elim (h.xO k hk).2.2 fun e => (h.xO k hk).2.1 e) (fun _ _ _ h => h), fun x hx => ?_, h.ms, h.cnt⟩, ⟨f.mono fun k _ hk => isT k hk, fun k hk => ?_⟩⟩
  · rcases hk with hk | hk
    · have := h.tlt k hk; omega
    · have := ho.lt k hk; omega
  · rcases new k hk with hk | hk
    · exact h.iO k hk
    · exact ⟨fun hr => by have := h.tlt k (h.rT k hr); omega, by omega⟩
  · refine ⟨(h.xO k hk).1, (h.xO k hk).2.1, fun hi => ?_⟩
    rcases new k hi with hi | hi
    · exact (h.xO k hk).2.2 hi
    · have := h.marks.lt k hk; omega
  · obtain ⟨m1, m2, m3, m4⟩ := h.mO x hx k hk
    refine ⟨m1, m2, fun hi => ?_, m4⟩
    rcases new k hi with hi | hi
    · exact m3 hi
    · have := h.tlt k (h.mT x hx k hk); omega
  · have e : k = s := e
    rcases new k hk with hk | hk
    · exact (h.iO k hk).2 e
    · omega
  · obtain ⟨g1, g2, g3, g4, g5⟩ := h.good x hx
    exact ⟨g1.keep (f.step (fun k _ hk => .inl (notR k hk)) (fun _ _ h => h)), g2, g3, g4, g5.fr f (fun k hk hk' => hk'.elim (h.mO x hx k hk).2.2.1 fun e => (h.mO x hx k hk).2.1 e) (fun _ _ _ h => h)⟩
  · rcases hk with hk | hk
    · exact .inl hk
    · exact (new k hk).imp (h.iT k) id
/-- fewer marks -/
theorem StoA.setLess (h : StoA T u s q g R M IA ic X xc L idl) (n : Nat) (hn : n ≤ L.length) :
    stOK ((⟨s, 0, none⟩ : Addr).add 2) 0 [.slice X n xc] u ∧ ∀ u2, u2 = setAll ((⟨s, 0, none⟩ : Addr).add 2) 0 [.slice X n xc] u → StoA T u2 s ⟨q.A, q.D, q.ms.take n⟩ g R M IA ic X xc (L.take n) idl ∧ Fr (fun k => k = s) u u2 := by
  obtain ⟨p1, p2⟩ := setF h.blk (o := 2) (by simp) (.slice X n xc)
  refine ⟨p1, fun u2 hu => ?_⟩
  obtain ⟨b2, f2⟩ := p2 u2 hu
  have ln : (L.take n).length = n := by rw [List.length_take]; omega
  have sub : ∀ x ∈ L.take n, x ∈ L := fun x hx => (List.take_sublist n L).subset hx
  refine ⟨⟨h.ar.frame f2 fun k _ e hr => h.sR (by have e : k = s := e; exact e ▸ hr), h.inv, by rw [ln]; simpa using b2, h.rT, h.sT, h.iT, h.xT, fun x hx => h.mT x (sub x hx), fun k hk => Nat.lt_of_lt_of_le (h.tlt k hk) f2.size, h.sR, h.iO, h.xO, fun x hx => h.mO x (sub x hx), h.mD.sublist (List.take_sublist n L), h.ids.fr f2 (fun k hk e => (h.iO k hk).2 e) (fun _ _ _ h => h), (h.marks.take n hn).fr f2 (fun k hk e => (h.xO k hk).2.1 e) (fun _ _ _ h => h), fun x hx => ?_, by rw [List.map_take, h.ms], by rw [ln]; have := h.cnt; omega⟩, f2⟩
  obtain ⟨g1, g2, g3, g4, g5⟩ := h.good x (sub x hx)
  exact ⟨g1.keep (f2.step (fun k _ e => .inl fun hr => h.sR (by have e : k = s := e; exact e ▸ hr)) (fun _ _ h => h)), g2, g3, g4, g5.fr f2 (fun k hk e => (h.mO x (sub x hx) k hk).2.1 e) (fun _ _ _ h => h)⟩
end
end Go.Proofs.Ythfagbfllheneaa
/- Layer 5: the calls of a store. -/
set_option linter.unusedVariables false
set_option linter.unusedSimpArgs false
namespace Go.Proofs.Ythfagbfllheneaa
open Go Go.Sx T4
def Sto (T : Nat → Prop) (u : World) (s : Nat) (q : Ab) : Prop := ∃ g R M IA ic X xc L, StoA T u s q g R M IA ic X xc L (idsD q.D)
section
variable {T : Nat → Prop} {u : World} {s : Nat} {q : Ab}
theorem Sto.ext (h : Sto T u s q) {u' : World} (e : Ext u u') : Sto T u' s q := by
  obtain ⟨g, R, M, IA, ic, X, xc, L, h⟩ := h; exact ⟨g, R, M, IA, ic, X, xc, L, h.ext e⟩
theorem Sto.frame (h : Sto T u s q) {S : Nat → Prop} {u' : World} (f : Fr S u u') (hS : ∀ k, k < u.heap.size → S k → ¬ T k) : Sto T u' s q := by
  obtain ⟨g, R, M, IA, ic, X, xc, L, h⟩ := h; exact ⟨g, R, M, IA, ic, X, xc, L, h.frame f hS⟩
theorem Sto.inv (h : Sto T u s q) : Inv q.A q.D := by obtain ⟨g, R, M, IA, ic, X, xc, L, h⟩ := h; exact h.inv
theorem Sto.lt (h : Sto T u s q) : ∀ k, T k → k < u.heap.size := by obtain ⟨g, R, M, IA, ic, X, xc, L, h⟩ := h; exact h.tlt
theorem Sto.cnt (h : Sto T u s q) : q.ms.length ≤ 100 := by obtain ⟨g, R, M, IA, ic, X, xc, L, h⟩ := h; rw [← h.ms, List.length_map]; exact h.cnt
theorem Sto.good (h : Sto T u s q) : ∀ p ∈ q.ms, Inv p.1 p.2 ∧ p.1.fan = q.A.fan ∧ p.1.most = q.A.most := by
  obtain ⟨g, R, M, IA, ic, X, xc, L, h⟩ := h
  intro p hp
  rw [← h.ms] at hp
  obtain ⟨x, hx, rfl⟩ := List.mem_map.1 hp
  obtain ⟨_, g2, g3, g4, _⟩ := h.good x hx
  exact ⟨g2, g3, g4⟩
/-- another store's call -/
theorem Sto.other (h : Sto T u s q) {T1 T1' : Nat → Prop} {u' : World} (c : Tch T1 u T1' u') (hd : ∀ k, T k → ¬ T1 k) : Sto T u' s q ∧ ∀ k, T k → ¬ T1' k :=
  ⟨h.frame c.fr fun k _ h1 ht => hd k ht h1, fun k hk h1 => (c.sub k h1).elim (hd k hk) fun h2 => by have := h.lt k hk; omega⟩
section
variable {g : Nat} {R M : Nat → Prop} {IA : Option Addr} {ic : Nat} {X : Option Addr} {xc : Nat} {L : List Mk} {idl : List Int}
theorem of_spec (h : StoA T u s q g R M IA ic X xc L idl) : CallsV Try.prog 76 #[.pointer (some ⟨s, 0, none⟩)] u fun r w' => r = .pointer (some ⟨g, 0, none⟩) ∧ w' = u := by
  refine undo_Store_of.calls okay ?_
  unfold undo_Store_of.W
  exact br (fun h => by cases h) fun _ => ⟨_, rfl, _, h.blk.cell rfl, rfl, rfl⟩
theorem smade_spec (h : StoA T u s q g R M IA ic X xc L idl) : CallsV Try.prog 70 #[.pointer (some ⟨s, 0, none⟩)] u fun r w' => r = .bool true ∧ w' = u := by
  refine undo_Store_made.calls okay ?_
  unfold undo_Store_made.W
  exact brnb (fun _ => ⟨_, rfl, _, h.blk.cell rfl, rfl, rfl⟩) fun h => by cases h
theorem sis_spec (h : StoA T u s q g R M IA ic X xc L idl) (n : Int) : CallsV Try.prog 73 #[.pointer (some ⟨s, 0, none⟩), .int .i64 n] u fun r w' => r = .int .i64 (if n < 1 ∨ (L.length : Int) < n then 60 else 0) ∧ w' = u := by
  refine undo_Store_is.calls okay ?_
  unfold undo_Store_is.W
  refine (smade_spec h).same ⟨_, rfl, brnb (fun h => by cases h) fun _ => brd (fun h1 => ?_) fun h1 => ⟨_, rfl, _, _, _, h.blk.cell rfl, brd (fun h2 => ?_) fun h2 => ?_⟩⟩
  · rw [if_pos (.inl h1)]; exact ⟨rfl, rfl⟩
  · rw [if_pos (.inr h2)]; exact ⟨rfl, rfl⟩
  · rw [if_neg (by omega)]; exact ⟨rfl, rfl⟩
end
/-! ## what it tells -/
def GetR (u w' : World) (x : Option Key) (r : Value) : Prop := match x with
  | none => r = .tuple #[.slice none 0 0, .bool false]
  | some v => ∃ B d, r = .tuple #[.slice B v.length d, .bool true] ∧ OwnB w' B d v ∧ New u B ∧ v.length ≤ 1048576
theorem sGet (h : Sto T u s q) (id : Int) {key : Key} {Ω : Nat → Prop} {KA : Option Addr} (hKA : Imm KB Ω u KA key) (kc : Nat) :
    CallsV Try.prog 49 #[.pointer (some ⟨s, 0, none⟩), .int .i64 id, .slice KA key.length kc] u fun r w' => Ext u w' ∧ GetR u w' ((gF (foD q.D) id).bind (getE key)) r := by
  obtain ⟨g, R, M, IA, ic, X, xc, L, h⟩ := h
  refine undo_Store_Get.calls okay ?_
  unfold undo_Store_Get.W
  refine (of_spec h).same ⟨_, rfl, (uGet h.ar h.inv id hKA kc).mono ?_⟩
  rintro r w' ⟨e, ht⟩
  generalize (gF (foD q.D) id).bind (getE key) = x at ht
  cases x with
  | none => cases ht; exact ⟨_, _, _, _, rfl, e, rfl⟩
  | some v => obtain ⟨B, d, rfl, h2⟩ := ht; exact ⟨_, _, _, _, rfl, e, B, d, rfl, h2⟩
theorem sLen (h : Sto T u s q) (id : Int) : CallsV Try.prog 34 #[.pointer (some ⟨s, 0, none⟩), .int .i64 id] u fun r w' => r = iv (lenO (gF (foD q.D) id)) ∧ Ext u w' := by
  obtain ⟨g, R, M, IA, ic, X, xc, L, h⟩ := h
  refine undo_Store_Len.calls okay ?_
  unfold undo_Store_Len.W
  refine (of_spec h).same ⟨_, rfl, (uLen h.ar h.inv id).mono ?_⟩
  rintro _ w' ⟨rfl, e⟩
  exact ⟨_, rfl, rfl, e⟩
theorem sCheck (h : Sto T u s q) : CallsV Try.prog 35 #[.pointer (some ⟨s, 0, none⟩)] u fun r w' => r = .int .i64 0 ∧ Ext u w' := by
  obtain ⟨g, R, M, IA, ic, X, xc, L, h⟩ := h
  refine undo_Store_Check.calls okay ?_
  unfold undo_Store_Check.W
  refine (of_spec h).same ⟨_, rfl, (dCheck h.inv h.ar).mono ?_⟩
  rintro _ w' ⟨rfl, e⟩
  exact ⟨_, rfl, rfl, e⟩
theorem sMarks (h : Sto T u s q) : CallsV Try.prog 24 #[.pointer (some ⟨s, 0, none⟩)] u fun r w' => r = iv q.ms.length ∧ w' = u := by
  obtain ⟨g, R, M, IA, ic, X, xc, L, h⟩ := h
  refine undo_Store_Marks.calls okay ?_
  unfold undo_Store_Marks.W
  have : q.ms.length = L.length := by rw [← h.ms, List.length_map]
  exact br (fun h => by cases h) fun _ => ⟨_, rfl, _, _, _, h.blk.cell rfl, by rw [this], rfl⟩
theorem sTrees (h : Sto T u s q) : CallsV Try.prog 33 #[.pointer (some ⟨s, 0, none⟩)] u fun r w' => ∃ A c, r = .slice A (idsD q.D).length c ∧ OwnK KI w' A c (idsD q.D) ∧ Ext u w' ∧ New u A := by
  obtain ⟨g, R, M, IA, ic, X, xc, L, h⟩ := h
  refine undo_Store_Trees.calls okay ?_
  unfold undo_Store_Trees.W
  refine br (fun h => by cases h) fun _ => ⟨_, rfl, _, _, _, h.blk.cell rfl, (CloneI_spec oneI (h.ids.imm KI_pos) (by rw [idsD_len]; have := h.inv.cnt; omega)).mono ?_⟩
  rintro _ w' ⟨A', c', rfl, ho, e, n, _⟩
  exact ⟨_, _, _, rfl, A', c', rfl, ho, e, n⟩
end
/-! ## what changes it -/
section
variable {A : Ar} {D : List Tr}
structure PutRel (A : Ar) (D : List Tr) (id : Int) (key val : Key) (A' : Ar) (D' : List Tr) (was : Bool) (e : Int) : Prop where
  inv : Inv A' D'
  same : Same A A'
  ids : idsD D' = idsD D
  rel : (gF (foD D) id = none ∧ A' = A ∧ D' = D ∧ was = false ∧ e = 41) ∨ ∃ D1 d D2 d' full, D = D1 ++ d :: D2 ∧ d.r = id ∧ D' = D1 ++ d' :: D2 ∧ d'.r = d.r ∧ was = (!full && inE key d.es) ∧ e = (if full then 5 else 0) ∧ (full = true → A' = A ∧ d' = d ∧ inE key d.es = false ∧ A.most < A.nodes + d.h + 1) ∧ (full = false → d'.es = insE key val d.es)
theorem aPut (hI : Inv A D) (id : Int) {key val : Key} (hk : key.length ≤ 1048576) (hv : val.length ≤ 1048576) : ∃ A' D' was e, PutRel A D id key val A' D' was e ∧
    ∀ {T : Nat → Prop} {u : World} {s : Nat} {ms : List (Ar × List Tr)}, Sto T u s ⟨A, D, ms⟩ → ∀ {Ω1 Ω2 : Nat → Prop} {KA VA : Option Addr}, Imm KB Ω1 u KA key → Imm KB Ω2 u VA val → ∀ kc vc : Nat,
      CallsV Try.prog 29 #[.pointer (some ⟨s, 0, none⟩), .int .i64 id, .slice KA key.length kc, .slice VA val.length vc] u fun r u' => r = .tuple #[.bool was, .int .i64 e] ∧ ∃ T', Sto T' u' s ⟨A', D', ms⟩ ∧ Tch T u T' u' := by
  rcases find_split (Ds := D) (r := id) with ⟨h1, h2⟩ | ⟨D1, d, D2, rfl, rfl, h3⟩
  · refine ⟨A, D, false, 41, ⟨hI, .refl A, rfl, .inl ⟨h1, rfl, rfl, rfl, rfl⟩⟩, ?_⟩
    rintro T u s ms ⟨g, R, M, IA, ic, X, xc, L, h⟩ Ω1 Ω2 KA VA iK iV kc vc
    refine undo_Store_Put.calls okay ?_
    unfold undo_Store_Put.W
    refine (of_spec h).same ⟨_, rfl, (Put_none h.ar (by have := hI.f1; show 0 < A.fan; omega) (hI.miss h2) KA VA key.length kc val.length vc).same ⟨_, _, rfl, rfl, T, ⟨g, R, M, IA, ic, X, xc, L, h⟩, .refl _ _⟩⟩
  · obtain ⟨A', d', full, hr', hI', hs', hfu, hno, hP⟩ := dPut hI hk hv
    have hids : idsD (D1 ++ d' :: D2) = idsD (D1 ++ d :: D2) := by simp [idsD, hr']
    refine ⟨A', D1 ++ d' :: D2, _, _, ⟨hI', hs', hids, .inr ⟨D1, d, D2, d', full, rfl, rfl, rfl, hr', rfl, rfl, hfu, hno⟩⟩, ?_⟩
    rintro T u s ms ⟨g, R, M, IA, ic, X, xc, L, h⟩ Ω1 Ω2 KA VA iK iV kc vc
    refine undo_Store_Put.calls okay ?_
    unfold undo_Store_Put.W
    refine (of_spec h).same ⟨_, rfl, (hP h.ar iK iV kc vc).mono ?_⟩
    rintro _ u' ⟨rfl, R', M', h', c⟩
    obtain ⟨T', h2, c2⟩ := h.chg h' c hI' hs'.fan hs'.most
    exact ⟨_, _, rfl, rfl, T', ⟨g, R', M', IA, ic, X, xc, L, by rw [hids]; exact h2⟩, c2⟩
structure DelRel (A : Ar) (D : List Tr) (id : Int) (key : Key) (A' : Ar) (D' : List Tr) (was : Bool) (e : Int) : Prop where
  inv : Inv A' D'
  same : Same A A'
  ids : idsD D' = idsD D
  rel : (gF (foD D) id = none ∧ A' = A ∧ D' = D ∧ was = false ∧ e = 41) ∨ ∃ D1 d D2 d', D = D1 ++ d :: D2 ∧ d.r = id ∧ D' = D1 ++ d' :: D2 ∧ d'.r = d.r ∧ was = inE key d.es ∧ e = 0 ∧ d'.es = delE key d.es
theorem aDel (hI : Inv A D) (id : Int) (key : Key) : ∃ A' D' was e, DelRel A D id key A' D' was e ∧
    ∀ {T : Nat → Prop} {u : World} {s : Nat} {ms : List (Ar × List Tr)}, Sto T u s ⟨A, D, ms⟩ → ∀ {Ω1 : Nat → Prop} {KA : Option Addr}, Imm KB Ω1 u KA key → ∀ kc : Nat,
      CallsV Try.prog 40 #[.pointer (some ⟨s, 0, none⟩), .int .i64 id, .slice KA key.length kc] u fun r u' => r = .tuple #[.bool was, .int .i64 e] ∧ ∃ T', Sto T' u' s ⟨A', D', ms⟩ ∧ Tch T u T' u' := by
  rcases find_split (Ds := D) (r := id) with ⟨h1, h2⟩ | ⟨D1, d, D2, rfl, rfl, h3⟩
  · refine ⟨A, D, false, 41, ⟨hI, .refl A, rfl, .inl ⟨h1, rfl, rfl, rfl, rfl⟩⟩, ?_⟩
    rintro T u s ms ⟨g, R, M, IA, ic, X, xc, L, h⟩ Ω1 KA iK kc
    refine undo_Store_Delete.calls okay ?_
    unfold undo_Store_Delete.W
    refine (of_spec h).same ⟨_, rfl, (Delete_none h.ar (by have := hI.f1; show 0 < A.fan; omega) (hI.miss h2) KA key.length kc).same ⟨_, _, rfl, rfl, T, ⟨g, R, M, IA, ic, X, xc, L, h⟩, .refl _ _⟩⟩
  · obtain ⟨A', d', hr', hI', hs', he, hP⟩ := dDel hI key
    have hids : idsD (D1 ++ d' :: D2) = idsD (D1 ++ d :: D2) := by simp [idsD, hr']
    refine ⟨A', D1 ++ d' :: D2, _, _, ⟨hI', hs', hids, .inr ⟨D1, d, D2, d', rfl, rfl, rfl, hr', rfl, rfl, he⟩⟩, ?_⟩
    rintro T u s ms ⟨g, R, M, IA, ic, X, xc, L, h⟩ Ω1 KA iK kc
    refine undo_Store_Delete.calls okay ?_
    unfold undo_Store_Delete.W
    refine (of_spec h).same ⟨_, rfl, (hP h.ar iK kc).mono ?_⟩
    rintro _ u' ⟨rfl, R', M', h', c⟩
    obtain ⟨T', h2, c2⟩ := h.chg h' c hI' hs'.fan hs'.most
    exact ⟨_, _, rfl, rfl, T', ⟨g, R', M', IA, ic, X, xc, L, by rw [hids]; exact h2⟩, c2⟩
structure CreRel (A : Ar) (D : List Tr) (A' : Ar) (D' : List Tr) (n e : Int) : Prop where
  inv : Inv A' D'
  fan : A'.fan = A.fan
  most : A'.most = A.most
  rel : (A.nodes < A.most ∧ D.length < 1000 ∧ A'.last = A.last + 1 ∧ n = ((A.last + 1 : Nat) : Int) ∧ e = 0 ∧ ∃ i, D' = D ++ [⟨((A.last + 1 : Nat) : Int), i, 1, [], [i]⟩]) ∨ ((A.most ≤ A.nodes ∨ 1000 ≤ D.length) ∧ A' = A ∧ D' = D ∧ n = 0 ∧ e = 5)
theorem aCreate (hI : Inv A D) (hl : A.last < 1000000) : ∃ A' D' n e, CreRel A D A' D' n e ∧
    ∀ {T : Nat → Prop} {u : World} {s : Nat} {ms : List (Ar × List Tr)}, Sto T u s ⟨A, D, ms⟩ →
      CallsV Try.prog 26 #[.pointer (some ⟨s, 0, none⟩)] u fun r u' => r = .tuple #[.int .i64 n, .int .i64 e] ∧ ∃ T', Sto T' u' s ⟨A', D', ms⟩ ∧ Tch T u T' u' := by
  by_cases hroom : A.nodes < A.most ∧ D.length < 1000
  · obtain ⟨A', i, hI', hf', hm', hl', hC⟩ := dCreate hI hroom.1 hroom.2 hl
    refine ⟨A', _, _, _, ⟨hI', hf', hm', .inl ⟨hroom.1, hroom.2, hl', rfl, rfl, i, rfl⟩⟩, ?_⟩
    rintro T u s ms ⟨g, R, M, IA, ic, X, xc, L, h⟩
    refine undo_Store_Create.calls okay ?_
    unfold undo_Store_Create.W
    refine (of_spec h).same ⟨_, rfl, (hC h.ar).mono ?_⟩
    rintro _ u1 ⟨rfl, R', M', h', c⟩
    obtain ⟨T1, h1, c1⟩ := h.chg h' c hI' hf' hm'
    refine ⟨_, _, rfl, brd (fun _ => ⟨_, rfl, _, _, _, h1.blk.cell rfl, ?_⟩) fun h => absurd rfl h⟩
    rintro g2 u2 ⟨rfl, rfl⟩
    have hlen : (idsD D).length ≤ 1000 := by rw [idsD_len]; exact hI.cnt
    obtain ⟨A3, c3, u3, hr3, ho3, gr3⟩ := h1.ids.push (K := KI) slI (ty := 37) (a := ((A.last + 1 : Nat) : Int)) (cs := [.int .i64 ((A.last + 1 : Nat) : Int)]) rfl (fun v hv => by simp at hv; subst hv; rfl) (e' := 3) (by show (idsD D).length + 1 ≤ maxLen; simp only [maxLen]; omega) (by show ((idsD D).length + 1) * 8 ≤ 140737488355328; omega)
    obtain ⟨p1, p2⟩ := h1.setIds ho3 gr3
    refine ⟨_, _, _, u3, hr3, _, rfl, p1, fun u4 hu4 => ?_⟩
    obtain ⟨T4, h4, c4⟩ := p2 u4 hu4
    refine ⟨rfl, T4, ⟨g, R', M', A3, c3, X, xc, L, ?_⟩, c1.trans c4⟩
    have : idsD D ++ [((A.last + 1 : Nat) : Int)] = idsD (D ++ [⟨((A.last + 1 : Nat) : Int), i, 1, [], [i]⟩]) := by simp [idsD]
    rw [this] at h4
    exact h4
  · refine ⟨A, D, 0, 5, ⟨hI, rfl, rfl, .inr ⟨by omega, rfl, rfl, rfl, rfl⟩⟩, ?_⟩
    rintro T u s ms ⟨g, R, M, IA, ic, X, xc, L, h⟩
    refine undo_Store_Create.calls okay ?_
    unfold undo_Store_Create.W
    refine (of_spec h).same ⟨_, rfl, (dFull hI (by omega) hl h.ar).mono ?_⟩
    rintro _ u1 ⟨rfl, e1⟩
    exact ⟨_, _, rfl, brd (fun h => by cases h) fun _ => ⟨rfl, T, ⟨g, R, M, IA, ic, X, xc, L, h.ext e1⟩, .ext e1⟩⟩
structure DropRel (A : Ar) (D : List Tr) (id : Int) (A' : Ar) (D' : List Tr) (e : Int) : Prop where
  inv : Inv A' D'
  same : Same A A'
  rel : (gF (foD D) id = none ∧ A' = A ∧ D' = D ∧ e = 41) ∨ ∃ D1 d D2, D = D1 ++ d :: D2 ∧ d.r = id ∧ D' = D1 ++ D2 ∧ e = 0
theorem ids_drop {D1 D2 : List Tr} {d : Tr} (h : ((D1 ++ d :: D2).map fun d => d.r).Nodup) : (idsD (D1 ++ d :: D2)).filter (fun x => !decide (x = d.r)) = idsD (D1 ++ D2) := by
  have hn := nd_mid h
  unfold idsD
  rw [List.map_append, List.filter_append, List.map_cons, List.filter_cons_of_neg (by simp), List.map_append, filter_all, filter_all]
  · intro x hx
    obtain ⟨y, hy, rfl⟩ := List.mem_map.1 hx
    exact hn y (List.mem_append_right _ hy)
  · intro x hx
    obtain ⟨y, hy, rfl⟩ := List.mem_map.1 hx
    exact hn y (List.mem_append_left _ hy)
theorem aDrop (hI : Inv A D) (id : Int) : ∃ A' D' e, DropRel A D id A' D' e ∧
    ∀ {T : Nat → Prop} {u : World} {s : Nat} {ms : List (Ar × List Tr)}, Sto T u s ⟨A, D, ms⟩ →
      CallsV Try.prog 31 #[.pointer (some ⟨s, 0, none⟩), .int .i64 id] u fun r u' => r = .int .i64 e ∧ ∃ T', Sto T' u' s ⟨A', D', ms⟩ ∧ Tch T u T' u' := by
  rcases find_split (Ds := D) (r := id) with ⟨h1, h2⟩ | ⟨D1, d, D2, rfl, rfl, h3⟩
  · refine ⟨A, D, 41, ⟨hI, .refl A, .inl ⟨h1, rfl, rfl, rfl⟩⟩, ?_⟩
    rintro T u s ms ⟨g, R, M, IA, ic, X, xc, L, h⟩
    refine undo_Store_Drop.calls okay ?_
    unfold undo_Store_Drop.W
    intro gi u1 f1
    have ed : Ext u1 u1.drew := Fr.drew NoB u1
    have e2 : Ext u u1.drew := f1.ext.drew
    refine ⟨fun x v => x = 41 ∧ v = u1.drew, ?_, fun v => Ext u1 v, ed, _, fun v e => (f1.blk.ext e).cell0 rfl, (of_spec (h.ext e2)).same ⟨_, rfl, ed, (Drop_none (h.ext e2).ar (by have := hI.f1; show 0 < A.fan; omega) (hI.miss h2)).same ⟨_, rfl, rfl, rfl⟩⟩⟩
    rintro _ _ ⟨rfl, rfl⟩
    exact brd (fun h => by cases h) fun _ => ⟨rfl, T, ⟨g, R, M, IA, ic, X, xc, L, h.ext e2⟩, .ext e2⟩
  · obtain ⟨A', hI', hs', _, hP⟩ := dDrop hI
    refine ⟨A', D1 ++ D2, 0, ⟨hI', hs', .inr ⟨D1, d, D2, rfl, rfl, rfl, rfl⟩⟩, ?_⟩
    rintro T u s ms ⟨g, R, M, IA, ic, X, xc, L, h⟩
    refine undo_Store_Drop.calls okay ?_
    unfold undo_Store_Drop.W
    intro gi u1 f1
    have ed : Ext u1 u1.drew := Fr.drew NoB u1
    have e2 : Ext u u1.drew := f1.ext.drew
    have h2 := h.ext e2
    have hgi : ¬ T gi := fun ht => by have := h.tlt gi ht; have := f1.ge; omega
    refine ⟨fun x v => x = 0 ∧ ∃ R' M' T', StoA T' v s ⟨A', D1 ++ D2, ms⟩ g R' M' IA ic X xc L (idsD (D1 ++ d :: D2)) ∧ Tch T u1.drew T' v, ?_, fun v => Ext u1 v, ed, _, fun v e => (f1.blk.ext e).cell0 rfl, (of_spec h2).same ⟨_, rfl, ed, (hP h2.ar).mono ?_⟩⟩
    · rintro _ v ⟨rfl, R', M', T', h3, c3⟩
      obtain ⟨bg, hgi'⟩ := c3.blk (f1.blk.ext ed) hgi
      have hlen : (idsD (D1 ++ d :: D2)).length ≤ 1000 := by rw [idsD_len]; exact hI.cnt
      refine brd (fun _ => ⟨_, rfl, _, _, _, h3.blk.cell rfl, (CloneI_spec oneI (h3.ids.imm KI_pos) (by omega)).mono ?_⟩) fun h => absurd rfl h
      rintro _ v2 ⟨A4, c4, rfl, ho4, e4, n4, _⟩
      have ho4 : OwnK KI v2 A4 c4 (idsD (D1 ++ d :: D2)) := ho4
      refine ⟨_, _, _, rfl, (DeleteFunc_spec ho4 (by omega) (bg.ext e4) (fun hk => by have := n4 _ hk; have := bg.lt; omega)).mono ?_⟩
      rintro _ v3 ⟨rfl, ho5, f5⟩
      rw [ids_drop hI.nd] at ho5 ⊢
      have e5 : Ext v v3 := e4.trans f5 (fun _ _ h => h) (fun k hk ho => by have := n4 k ho; omega)
      obtain ⟨p1, p2⟩ := h3.setIds ho5 ⟨e5.fr, fun k hk => .inr (n4 k hk)⟩
      refine ⟨_, _, _, rfl, _, rfl, p1, fun v4 hv4 => ?_⟩
      obtain ⟨T4, h4, c4⟩ := p2 v4 hv4
      exact ⟨rfl, T4, ⟨g, R', M', A4, _, X, xc, L, h4⟩, (Tch.ext e2).trans (c3.trans c4)⟩
    · rintro _ v ⟨rfl, R', M', h', c⟩
      obtain ⟨T', h3, c3⟩ := h2.chg h' c hI' hs'.fan hs'.most
      exact ⟨_, rfl, rfl, R', M', T', h3, c3⟩
end
end Go.Proofs.Ythfagbfllheneaa
/- Layer 5: marks. -/
set_option linter.unusedVariables false
set_option linter.unusedSimpArgs false
namespace Go.Proofs.Ythfagbfllheneaa
open Go Go.Sx T4
section
variable {T : Nat → Prop} {u : World} {s : Nat} {q : Ab}
theorem StoA.setMarks {g : Nat} {R M : Nat → Prop} {IA : Option Addr} {ic : Nat} {X : Option Addr} {xc : Nat} {L : List Mk} {idl : List Int} (h : StoA T u s q g R M IA ic X xc L idl) {a : Mk} (g1 : Sv1 (Om R M) u a.sb g a.A) (g2 : Inv a.A a.D) (g3 : a.A.fan = q.A.fan) (g4 : a.A.most = q.A.most) (g5 : OwnK KI u a.MA a.mc (idsD a.D)) (hnew : ∀ k, ownB a.MA k → ¬ T k) (hl : L.length < 100) {u' : World} {X' : Option Addr} {xc' : Nat} (ho : OwnK KMk u' X' xc' (L ++ [a])) (gr : Grew X X' u u') :
    stOK ((⟨s, 0, none⟩ : Addr).add 2) 0 [.slice X' (L ++ [a]).length xc'] u' ∧ ∀ u2, u2 = setAll ((⟨s, 0, none⟩ : Addr).add 2) 0 [.slice X' (L ++ [a]).length xc'] u' →
      StoA (fun k => T k ∨ ownB X' k ∨ ownB a.MA k) u2 s ⟨q.A, q.D, q.ms ++ [(a.A, a.D)]⟩ g R M IA ic X' xc' (L ++ [a]) idl ∧ Fr T u u2 ∧ ∀ k, ownB X' k → T k ∨ u.heap.size ≤ k := by
  have bs := h.blk.keep gr.fr (fun hk => (h.xO _ hk).2.1 rfl)
  obtain ⟨p1, p2⟩ := setF bs (o := 2) (by simp) (.slice X' (L ++ [a]).length xc')
  refine ⟨p1, fun u2 hu => ?_⟩
  obtain ⟨b2, f2⟩ := p2 u2 hu
  have hsz := gr.fr.size
  have hsz2 := f2.size
  have f : Fr (fun k => ownB X k ∨ k = s) u u2 := (gr.fr.mono fun _ _ h => .inl h).trans f2 (fun _ _ h => h) (fun _ _ h => .inr h)
  have isT : ∀ k, ownB X k ∨ k = s → T k := fun k hk => hk.elim (h.xT k) fun e => e ▸ h.sT
  have notR : ∀ k, ownB X k ∨ k = s → ¬ R k := fun k hk => hk.elim (fun hk => (h.xO k hk).1) fun e => e ▸ h.sR
  have new : ∀ k, ownB X' k → ownB X k ∨ u.heap.size ≤ k := gr.sub
  have hsl := h.blk.lt
  have ma : ∀ k, ownB a.MA k → k < u.heap.size := g5.lt
  refine ⟨⟨h.ar.frame f fun k _ hk => notR k hk, h.inv, by simpa using b2, fun k hk => .inl (h.rT k hk), .inl h.sT, fun k hk => .inl (h.iT k hk), fun k hk => .inr (.inl hk), fun x hx k hk => ?_, fun k hk => ?_, h.sR, h.iO, fun k hk => ?_, fun x hx k hk => ?_, ?_, h.ids.fr f (fun k hk hk' => hk'.elim (fun hx => (h.xO k hx).2.2 hk) fun e => (h.iO k hk).2 e) (fun _ _ _ h => h), ho.fr f2 (fun k hk e => ?_) (fun _ _ _ h => h), fun x hx => ?_, by rw [List.map_append, h.ms]; rfl, by simp; omega⟩, f.mono fun k _ hk => isT k hk, fun k hk => (new k hk).imp (h.xT k) id⟩
  · rcases List.mem_append.1 hx with hx | hx
    · exact .inl (h.mT x hx k hk)
    · obtain rfl := List.mem_singleton.1 hx; exact .inr (.inr hk)
  · rcases hk with hk | hk | hk
    · have := h.tlt k hk; omega
    · have := ho.lt k hk; omega
    · have := ma k hk; omega
  · rcases new k hk with hk | hk
    · exact h.xO k hk
    · exact ⟨fun hr => by have := h.tlt k (h.rT k hr); omega, by omega, fun hi => by have := h.ids.lt k hi; omega⟩
  · rcases List.mem_append.1 hx with hx | hx
    · obtain ⟨m1, m2, m3, m4⟩ := h.mO x hx k hk
      refine ⟨m1, m2, m3, fun hX => ?_⟩
      rcases new k hX with hX | hX
      · exact m4 hX
      · have := h.tlt k (h.mT x hx k hk); omega
    · obtain rfl := List.mem_singleton.1 hx
      have hT := hnew k hk
      refine ⟨fun hr => hT (h.rT k hr), fun e => hT (e ▸ h.sT), fun hi => hT (h.iT k hi), fun hX => ?_⟩
      rcases new k hX with hX | hX
      · exact hT (h.xT k hX)
      · have := ma k hk; omega
  · refine List.pairwise_append.2 ⟨h.mD, List.pairwise_singleton _ _, fun x hx y hy k hk hk' => ?_⟩
    obtain rfl := List.mem_singleton.1 hy
    exact hnew k hk' (h.mT x hx k hk)
  · have e : k = s := e
    rcases new k hk with hk | hk
    · exact (h.xO k hk).2.1 e
    · omega
  · have st : Step (Om R M) u (Om R M) u2 := f.step (fun k _ hk => .inl (notR k hk)) (fun _ _ h => h)
    rcases List.mem_append.1 hx with hx | hx
    · obtain ⟨g1, g2, g3, g4, g5⟩ := h.good x hx
      exact ⟨g1.keep st, g2, g3, g4, g5.fr f (fun k hk hk' => hk'.elim (h.mO x hx k hk).2.2.2 fun e => (h.mO x hx k hk).2.1 e) (fun _ _ _ h => h)⟩
    · obtain rfl := List.mem_singleton.1 hx
      exact ⟨g1.keep st, g2, g3, g4, g5.fr f (fun k hk hk' => hnew k hk (isT k hk')) (fun _ _ _ h => h)⟩
theorem aMark (h : Sto T u s q) : CallsV Try.prog 18 #[.pointer (some ⟨s, 0, none⟩)] u fun r u' => (100 ≤ q.ms.length ∧ r = .tuple #[.int .i64 0, .int .i64 5] ∧ Ext u u') ∨ (q.ms.length < 100 ∧ r = .tuple #[iv (q.ms.length + 1), .int .i64 0] ∧ ∃ T', Sto T' u' s ⟨q.A, q.D, q.ms ++ [(q.A, q.D)]⟩ ∧ Tch T u T' u') := by
  obtain ⟨g, R, M, IA, ic, X, xc, L, h⟩ := h
  have hml : q.ms.length = L.length := by rw [← h.ms, List.length_map]
  refine undo_Store_Mark.calls okay ?_
  unfold undo_Store_Mark.W
  refine (smade_spec h).same ⟨_, rfl, brnb (fun h => by cases h) fun _ => ⟨_, rfl, _, _, _, h.blk.cell rfl, brd (fun hge => .inl ⟨by omega, rfl, .refl _ _⟩) fun hlt => ?_⟩⟩
  refine ⟨fun v => ∃ T' R' M' X' xc' a, StoA T' v s ⟨q.A, q.D, q.ms ++ [(q.A, q.D)]⟩ g R' M' IA ic X' xc' (L ++ [a]) (idsD q.D) ∧ Tch T u T' v, ?_, ?_⟩
  · rintro v ⟨T', R', M', X', xc', a, h', c⟩
    refine ⟨_, rfl, _, _, _, h'.blk.cell rfl, .inr ⟨by omega, ?_, T', ⟨g, R', M', IA, ic, X', xc', _, h'⟩, c⟩⟩
    rw [hml]; simp
  · have ed : Ext u u.drew := Fr.drew NoB u
    have h1 := h.ext ed
    refine ⟨_, rfl, fun v => Blk v s [.pointer (some ⟨g, 0, none⟩), .slice IA (idsD q.D).length ic, .slice X L.length xc], h1.blk, _, _, _, fun v hv => hv.cell rfl, _, rfl, _, fun v hv => hv.cell rfl, _, rfl, _, _, _, fun v hv => hv.cell rfl, (dSave h1.inv h1.ar).mono ?_⟩
    rintro _ u2 ⟨sb, R2, rfl, ha2, c2, e2, hS2⟩
    obtain ⟨T2, h2, t2⟩ := h1.chg ha2 c2 h1.inv rfl rfl
    refine ⟨_, rfl, h2.blk, (CloneI_spec oneI (h2.ids.imm KI_pos) (by rw [idsD_len]; have := h2.inv.cnt; show q.D.length ≤ _; have h9 : q.D.length ≤ 1000 := h2.inv.cnt; omega)).mono ?_⟩
    rintro _ u3 ⟨A3, c3, rfl, ho3, e3, n3, _⟩
    have ho3 : OwnK KI u3 A3 c3 (idsD q.D) := ho3
    have h3 := h2.ext e3
    refine ⟨_, _, _, rfl, h3.blk, ?_⟩
    rintro g4 u4 ⟨rfl, rfl⟩
    obtain ⟨X', xc', u5, hr5, ho5, gr5⟩ := h3.marks.push (K := KMk) slM (ty := 79) (a := ⟨sb, A3, c3, q.A, q.D⟩) (cs := mkC ⟨sb, A3, c3, q.A, q.D⟩) rfl (fun v hv => by simp [mkC] at hv; rcases hv with rfl | rfl <;> rfl) (e' := 122) (by simp only [maxLen]; omega) (by omega)
    have hnew : ∀ k, ownB A3 k → ¬ T2 k := fun k hk ht => by have := n3 k hk; have := h2.tlt k ht; omega
    obtain ⟨p1, p2⟩ := h3.setMarks (a := ⟨sb, A3, c3, q.A, q.D⟩) (hS2.keep (Ext.om e3 R2 M)) h1.inv rfl rfl ho3 hnew (by omega) ho5 gr5
    refine ⟨h3.blk.ext (Fr.alloc NoB u3 _), _, _, _, u5, hr5, _, rfl, p1, fun u6 hu6 => ?_⟩
    obtain ⟨h6, f6, s6⟩ := p2 u6 hu6
    refine ⟨_, R2, M, X', xc', _, h6, (Tch.ext ed).trans (t2.trans ⟨(e3.fr : Fr T2 u2 u3).trans f6 (fun _ _ h => h) (fun _ _ h => h), fun k hk => ?_⟩)⟩
    have := e3.size
    rcases hk with hk | hk | hk
    · exact .inl hk
    · exact (s6 k hk).imp id fun h => by omega
    · exact .inr (n3 k hk)
theorem aFree (h : Sto T u s q) (n : Int) : CallsV Try.prog 19 #[.pointer (some ⟨s, 0, none⟩), .int .i64 n] u fun r u' => ((n < 1 ∨ (q.ms.length : Int) < n) ∧ r = .int .i64 60 ∧ u' = u) ∨ (1 ≤ n ∧ n ≤ (q.ms.length : Int) ∧ r = .int .i64 0 ∧ ∃ T', Sto T' u' s ⟨q.A, q.D, q.ms.take (n - 1).toNat⟩ ∧ Tch T u T' u') := by
  obtain ⟨g, R, M, IA, ic, X, xc, L, h⟩ := h
  have hml : q.ms.length = L.length := by rw [← h.ms, List.length_map]
  have hcnt := h.cnt
  refine undo_Store_Free.calls okay ?_
  unfold undo_Store_Free.W
  refine (sis_spec h n).same ⟨_, rfl, ?_⟩
  by_cases hb : n < 1 ∨ (L.length : Int) < n
  · rw [if_pos hb]
    exact brn (fun _ => .inl ⟨by omega, rfl, rfl⟩) fun h => by cases h
  · rw [if_neg hb]
    have hw : IntKind.i64.wrap (n - 1) = (((n - 1).toNat : Nat) : Int) := by rw [wi _ (by omega) (by omega)]; omega
    have hxle : L.length ≤ xc := by obtain ⟨xs, ho, _⟩ := h.marks; exact ho.le
    obtain ⟨p1, p2⟩ := h.setLess (n - 1).toNat (by omega)
    refine brn (fun h => absurd rfl h) fun _ => ⟨_, rfl, _, _, _, h.blk.cell rfl, ?_⟩
    rw [hw, cutAt_zero, Int.toNat_natCast, Nat.sub_zero, Nat.sub_zero]
    refine ⟨⟨by omega, by omega⟩, _, rfl, p1, fun u2 hu2 => ?_⟩
    obtain ⟨h2, f2⟩ := p2 u2 hu2
    exact .inr ⟨by omega, by omega, rfl, T, ⟨g, R, M, IA, ic, X, xc, _, h2⟩, ⟨f2.mono fun k _ e => by have e : k = s := e; rw [e]; exact h.sT, fun k hk => .inl hk⟩⟩
theorem mkCell {Ω : Nat → Prop} {X : Option Addr} {L : List Mk} (h : Imm KMk Ω u X L) {k : Nat} (hk : k < L.length) : ∃ ad, X = some ad ∧ u.cell? ((ad.add (k * 2)).add 0) = some (.pointer (some ⟨L[k].sb, 0, none⟩)) ∧ u.cell? ((ad.add (k * 2)).add 1) = some (.slice L[k].MA (idsD L[k].D).length L[k].mc) := by
  obtain ⟨ad, hA, _, cs, hr, hc⟩ := h k L[k] (List.getElem?_eq_getElem hk)
  have hr : cs = mkC L[k] := hr
  subst hr
  exact ⟨ad, hA, by rw [add_add]; exact hc 0 _ rfl, by rw [add_add]; exact hc 1 _ rfl⟩
set_option maxHeartbeats 400000 in
theorem aBack (h : Sto T u s q) (n : Int) : CallsV Try.prog 25 #[.pointer (some ⟨s, 0, none⟩), .int .i64 n] u fun r u' => ((n < 1 ∨ (q.ms.length : Int) < n) ∧ r = .int .i64 60 ∧ u' = u) ∨ (1 ≤ n ∧ n ≤ (q.ms.length : Int) ∧ r = .int .i64 0 ∧ ∃ B D' T', q.ms[(n - 1).toNat]? = some (B, D') ∧ Sto T' u' s ⟨B, D', q.ms.take (n - 1).toNat⟩ ∧ Tch T u T' u') := by
  obtain ⟨g, R, M, IA, ic, X, xc, L, h⟩ := h
  have hml : q.ms.length = L.length := by rw [← h.ms, List.length_map]
  have hcnt := h.cnt
  refine undo_Store_Back.calls okay ?_
  unfold undo_Store_Back.W
  refine (sis_spec h n).same ⟨_, rfl, ?_⟩
  by_cases hb : n < 1 ∨ (L.length : Int) < n
  · rw [if_pos hb]
    exact brn (fun _ => .inl ⟨by omega, rfl, rfl⟩) fun h => by cases h
  · rw [if_neg hb]
    have hw : IntKind.i64.wrap (n - 1) = (((n - 1).toNat : Nat) : Int) := by rw [wi _ (by omega) (by omega)]; omega
    have hxle : L.length ≤ xc := by obtain ⟨xs, ho, _⟩ := h.marks; exact ho.le
    obtain ⟨k, hk⟩ : ∃ k, (n - 1).toNat = k := ⟨_, rfl⟩
    rw [hk] at hw ⊢
    have hkl : k < L.length := by omega
    obtain ⟨ad, hX, c0, c1⟩ := mkCell (h.marks.imm KMk_pos) hkl
    refine brn (fun h => absurd rfl h) fun _ => ⟨_, rfl, _, _, _, h.blk.cell rfl, ad, hX, ?_⟩
    rw [hw, Int.toNat_natCast]
    refine ⟨⟨by omega, by omega⟩, _, c0, _, _, _, c1, ?_⟩
    have hmem : L[k] ∈ L := List.getElem_mem hkl
    have hqk : q.ms[k]? = some (L[k].A, L[k].D) := by rw [← h.ms, List.getElem?_map, List.getElem?_eq_getElem hkl]; rfl
    have hdis : ∀ x ∈ L.take k, ∀ j, ownB x.MA j → ¬ ownB L[k].MA j := by
      have hp := h.mD
      rw [← List.take_append_drop k L, List.drop_eq_getElem_cons hkl] at hp
      intro x hx j hj
      exact (List.pairwise_append.1 hp).2.2 x hx L[k] (List.mem_cons.2 (.inl rfl)) j hj
    generalize L[k] = x at *
    intro gm u1 f1
    refine ⟨f1.blk.stOK (o := 0) [_, _] 0 (by simp), fun u2 hu2 => ?_⟩
    have bm : Blk u2 gm (mkC x) := by rw [hu2]; exact Blk.setAll (o := 0) (mkC x) 0 f1.blk
    have e2 : Ext u u2 := by rw [hu2]; exact f1.ext.setAll f1.ge _ _
    have ed : Ext u u2.drew := e2.drew
    have hgm : ¬ T gm := fun ht => by have := h.tlt gm ht; have := f1.ge; omega
    have hgs : gm ≠ s := fun e => hgm (e ▸ h.sT)
    have hd := h.ext ed
    have bmd := bm.ext (Fr.drew NoB u2)
    -- the numbers
    obtain ⟨p1, p2⟩ := setF hd.blk (o := 1) (by simp) (.slice x.MA (idsD x.D).length x.mc)
    refine ⟨fun v => ∃ T', StoA T' v s ⟨q.A, q.D, q.ms.take k⟩ g R M x.MA x.mc X xc (L.take k) (idsD x.D) ∧ Sv1 (Om R M) v x.sb g x.A ∧ Tch T u T' v ∧ Blk v gm (mkC x) ∧ ¬ T' gm, ?_, ?_⟩
    · rintro v ⟨T', h', hS', c', bm', hgm'⟩
      obtain ⟨g1, g2, g3, g4, g5⟩ := h.good x hmem
      have edv : Ext v v.drew := Fr.drew NoB v
      have hv := h'.ext edv
      refine ⟨_, rfl, fun z => Ext v z, edv, _, fun z e => (h'.blk.ext e).cell rfl, _, fun z e => (bm'.ext e).cell rfl, (dLoad hv.inv g2 g3 g4 hv.ar (hS'.keep (Ext.om edv R M))).mono ?_⟩
      rintro _ v2 ⟨rfl, R', M', ha, c⟩
      obtain ⟨T2, h2, t2⟩ := hv.chg ha c g2 g3 g4
      exact ⟨_, rfl, .inr ⟨by omega, by omega, rfl, x.A, x.D, T2, hqk, ⟨g, R', M', x.MA, x.mc, X, xc, _, h2⟩, c'.trans ((Tch.ext edv).trans t2)⟩⟩
    · refine ⟨fun v => Blk v gm (mkC x) ∧ Blk v s [.pointer (some ⟨g, 0, none⟩), .slice IA (idsD q.D).length ic, .slice X L.length xc], ⟨bmd, hd.blk⟩, _, _, _, fun v hv => hv.1.cell rfl, _, rfl, _, _, _, fun v hv => hv.2.cell rfl, ⟨by omega, by omega⟩, _, rfl, p1, fun u3 hu3 => ?_⟩
      obtain ⟨b3, f3⟩ := p2 u3 hu3
      obtain ⟨q1, q2⟩ := setF b3 (o := 2) (by simp) (.slice X k xc)
      rw [cutAt_zero, Nat.sub_zero, Nat.sub_zero]
      refine ⟨_, rfl, q1, fun u4 hu4 => ?_⟩
      obtain ⟨b4, f4⟩ := q2 u4 hu4
      have f : Fr (fun j => j = s) u2.drew u4 := f3.trans f4 (fun _ _ h => h) (fun _ _ h => h)
      have ln : (L.take k).length = k := by rw [List.length_take]; omega
      have sub : ∀ y ∈ L.take k, y ∈ L := fun y hy => (List.take_sublist k L).subset hy
      have so : Step (Om R M) u2.drew (Om R M) u4 := f.step (fun j _ e => .inl fun hr => h.sR (by have e : j = s := e; exact e ▸ hr)) (fun _ _ h => h)
      obtain ⟨g1, g2, g3, g4, g5⟩ := hd.good x hmem
      refine ⟨T, ⟨hd.ar.frame f fun j _ e hr => h.sR (by have e : j = s := e; exact e ▸ hr), hd.inv, by rw [ln]; simpa using b4, h.rT, h.sT, h.mT x hmem, h.xT, fun y hy => h.mT y (sub y hy), fun j hj => Nat.lt_of_lt_of_le (hd.tlt j hj) f.size, h.sR, fun j hj => ⟨(h.mO x hmem j hj).1, (h.mO x hmem j hj).2.1⟩, fun j hj => ⟨(h.xO j hj).1, (h.xO j hj).2.1, fun hm => (h.mO x hmem j hm).2.2.2 hj⟩, fun y hy j hj => ⟨(h.mO y (sub y hy) j hj).1, (h.mO y (sub y hy) j hj).2.1, hdis y hy j hj, (h.mO y (sub y hy) j hj).2.2.2⟩, h.mD.sublist (List.take_sublist k L), g5.fr f (fun j hj e => (h.mO x hmem j hj).2.1 e) (fun _ _ _ h => h), (hd.marks.take k (by omega)).fr f (fun j hj e => (h.xO j hj).2.1 e) (fun _ _ _ h => h), fun y hy => ?_, by rw [List.map_take, h.ms], by rw [ln]; omega⟩, g1.keep so, (Tch.ext ed).trans ⟨f.mono fun j _ e => by have e : j = s := e; rw [e]; exact h.sT, fun j hj => .inl hj⟩, bmd.keep f hgs, hgm⟩
      obtain ⟨y1, y2, y3, y4, y5⟩ := hd.good y (sub y hy)
      exact ⟨y1.keep so, y2, y3, y4, y5.fr f (fun j hj e => (h.mO y (sub y hy) j hj).2.1 e) (fun _ _ _ h => h)⟩
end
theorem aNew (u : World) (fan most : Nat) (h1 : 4 ≤ fan) (h2 : fan ≤ 64) (h3 : 1 ≤ most) (h4 : most ≤ 65536) : CallsV Try.prog 15 #[iv fan, iv most] u fun r u' => ∃ s T, r = .tuple #[.pointer (some ⟨s, 0, none⟩), .int .i64 0] ∧ Sto T u' s ⟨A0 fan most, [], []⟩ ∧ Ext u u' ∧ ∀ k, T k → u.heap.size ≤ k := by
  refine undo_New.calls okay ?_
  unfold undo_New.W
  refine (New_spec u fan most h1 h2 h3 h4).mono ?_
  rintro _ u1 ⟨g, R, M, rfl, ha, e1, hR⟩
  refine ⟨_, _, rfl, brn (fun h => absurd rfl h) fun _ => ?_⟩
  intro s u2 f2
  have hI : Inv (A0 fan most) [] := ⟨rfl, fun _ h => (by cases h), fun x => (by simp [A0]), List.nodup_nil, fun _ h => (by cases h), h1, h2, h4, by simp [Ar.nodes, A0], by simp [A0], by simp⟩
  have hl := ha.lt
  refine ⟨s, fun k => R k ∨ k = s, rfl, ⟨g, R, M, none, 0, none, 0, [], ⟨ha.ext f2.ext, hI, f2.blk, fun k hk => .inl hk, .inr rfl, fun k hk => (ownB_none k hk).elim, fun k hk => (ownB_none k hk).elim, fun x hx => (by cases hx), fun k hk => ?_, fun hr => by have := hl s hr; have := f2.ge; omega, fun k hk => (ownB_none k hk).elim, fun k hk => (ownB_none k hk).elim, fun x hx => (by cases hx), List.Pairwise.nil, OwnK.nil _ _, OwnK.nil _ _, fun x hx => (by cases hx), rfl, by simp⟩⟩, e1.trans' f2.ext, fun k hk => ?_⟩
  · rcases hk with hk | rfl
    · have := hl k hk; have := f2.ext.size; omega
    · exact f2.lt
  · rcases hk with hk | rfl
    · exact hR k hk
    · exact Nat.le_trans e1.size f2.ge
theorem aNew_bad (u : World) (fan most : Int) (h : fan < 4 ∨ 64 < fan ∨ most < 1 ∨ 65536 < most) : CallsV Try.prog 15 #[.int .i64 fan, .int .i64 most] u fun r u' => r = .tuple #[.pointer none, .int .i64 2] ∧ u' = u := by
  refine undo_New.calls okay ?_
  unfold undo_New.W
  exact (New_bad u fan most h).same ⟨_, _, rfl, brn (fun _ => ⟨rfl, rfl⟩) fun h => by cases h⟩
end Go.Proofs.Ythfagbfllheneaa
/- The preconditions of Go functions, printed by a program of this workplace (nests.py); each is proved to be the engine's own. -/
set_option linter.unusedVariables false
set_option maxRecDepth 100000
namespace Go.Proofs.Ythfagbfllheneaa
open Go Go.Sx
noncomputable def cardindexlaw05_b.W : ByteArray → World → (Value → World → Prop) → Prop := fun (s : ByteArray) (w : World) (K : Value → World → Prop) => ∃ (x : Option Addr), ∃ (x_1 : Nat),
 ∃ (x_2 : Nat), ∃ (w' : World), RunsTo Try.prog (convert (9 : Nat) (28 : Nat) (Value.string s)) w (Value.slice x x_1 x_2) w' ∧ K (Value.slice x x_1 x_2) w'
theorem cardindexlaw05_b.eq (s : ByteArray) (w : World) (K : Value → World → Prop) : cardindexlaw05_b.W s w K = fnW Try.prog Try.f30 (.named .auto) [.string s] w K := by kernel_rfl
theorem cardindexlaw05_b.calls (ok : Okay Try.prog) {s : ByteArray} {w : World} {K : Value → World → Prop} (h : cardindexlaw05_b.W s w K) : CallsV Try.prog 30 #[.string s] w K :=
  fnW_calls ok Try.func30 (an := (.named .auto)) (args := [.string s]) (by rw [← cardindexlaw05_b.eq]; exact h)
noncomputable def cardindexlaw05_is.W : Option Addr → Int → ByteArray → ByteArray → World → (Value → World → Prop) → Prop := fun (s : Option Addr) (id : Int) (key want : ByteArray) (w : World) (K
 : Value → World → Prop) => CallsV Try.prog (30 : Nat) #[Value.string key] w fun (v : Value) (w' : World) => ∃ (x : Option Addr), ∃ (x_1 : Nat), ∃ (x_2 : Nat), v =
 Value.slice x x_1 x_2 ∧ CallsV Try.prog (49 : Nat) #[Value.pointer s, Value.int IntKind.i64 id, Value.slice x x_1 x_2] w' fun (v : Value) (w' : World) => ∃ (x :
 Option Addr), ∃ (x_3 : Nat), ∃ (x_4 : Nat), ∃ (x_5 : Bool), v = Value.tuple #[Value.slice x x_3 x_4, Value.bool x_5] ∧ bif Decidable.decide (x_5 = !ByteArray.toList want == ByteArray.toList
 (ByteArray.mk #[])) then ∃ (x_6 : ByteArray), ∃ (w'_1 : World), RunsTo Try.prog (convert (28 : Nat) (9 : Nat) (Value.slice x x_3 x_4)) w' (Value.string x_6) w'_1 ∧ K
 (Value.bool (ByteArray.toList x_6 == ByteArray.toList want)) w'_1 else K (Value.bool Bool.false) w'
theorem cardindexlaw05_is.eq (s : Option Addr) (id : Int) (key : ByteArray) (want : ByteArray) (w : World) (K : Value → World → Prop) : cardindexlaw05_is.W s id key want w K = fnW Try.prog Try.f74 (.named .auto) [.pointer s, .int .i64 id, .string key, .string want] w K := by kernel_rfl
theorem cardindexlaw05_is.calls (ok : Okay Try.prog) {s : Option Addr} {id : Int} {key : ByteArray} {want : ByteArray} {w : World} {K : Value → World → Prop} (h : cardindexlaw05_is.W s id key want w K) : CallsV Try.prog 74 #[.pointer s, .int .i64 id, .string key, .string want] w K :=
  fnW_calls ok Try.func74 (an := (.named .auto)) (args := [.pointer s, .int .i64 id, .string key, .string want]) (by rw [← cardindexlaw05_is.eq]; exact h)
noncomputable def cardindexlaw05_puts.W : Option Addr → Int → ByteArray → ByteArray → World → (Value → World → Prop) → Prop := fun (s : Option Addr) (id : Int) (key val : ByteArray) (w : World)
 (K : Value → World → Prop) => CallsV Try.prog (30 : Nat) #[Value.string key] w fun (v : Value) (w' : World) => ∃ (x : Option Addr), ∃ (x_1 : Nat), ∃ (x_2 : Nat), v =
 Value.slice x x_1 x_2 ∧ CallsV Try.prog (30 : Nat) #[Value.string val] w' fun (v : Value) (w' : World) => ∃ (x_3 : Option Addr), ∃ (x_4 : Nat), ∃ (x_5 : Nat), v =
 Value.slice x_3 x_4 x_5 ∧ CallsV Try.prog (29 : Nat) #[Value.pointer s, Value.int IntKind.i64 id, Value.slice x x_1 x_2, Value.slice x_3 x_4 x_5] w' fun (v : Value)
 (w' : World) => ∃ (x : Bool), ∃ (x_6 : Int), v = Value.tuple #[Value.bool x, Value.int IntKind.i64 x_6] ∧ K (Value.bool (Decidable.decide (x_6 = (0 : Int)))) w'
theorem cardindexlaw05_puts.eq (s : Option Addr) (id : Int) (key : ByteArray) (val : ByteArray) (w : World) (K : Value → World → Prop) : cardindexlaw05_puts.W s id key val w K = fnW Try.prog Try.f28 (.named .auto) [.pointer s, .int .i64 id, .string key, .string val] w K := by kernel_rfl
theorem cardindexlaw05_puts.calls (ok : Okay Try.prog) {s : Option Addr} {id : Int} {key : ByteArray} {val : ByteArray} {w : World} {K : Value → World → Prop} (h : cardindexlaw05_puts.W s id key val w K) : CallsV Try.prog 28 #[.pointer s, .int .i64 id, .string key, .string val] w K :=
  fnW_calls ok Try.func28 (an := (.named .auto)) (args := [.pointer s, .int .i64 id, .string key, .string val]) (by rw [← cardindexlaw05_puts.eq]; exact h)
noncomputable def cardindexlaw05_marks.W : Option Addr → Int → World → (Value → World → Prop) → Prop := fun (s : Option Addr) (n : Int) (w : World) (K : Value → World → Prop) =>
 CallsV Try.prog (18 : Nat) #[Value.pointer s] w fun (v : Value) (w' : World) => ∃ (x : Int), ∃ (x_1 : Int), v = Value.tuple #[Value.int IntKind.i64 x, Value.int
 IntKind.i64 x_1] ∧ bif Decidable.decide (x = n) then bif Decidable.decide (x_1 = (0 : Int)) then CallsV Try.prog (24 : Nat) #[Value.pointer s] w' fun (v : Value) (w' :
 World) => ∃ (x : Int), v = Value.int IntKind.i64 x ∧ K (Value.bool (Decidable.decide (x = n))) w' else K (Value.bool Bool.false) w' else K (Value.bool Bool.false) w'
theorem cardindexlaw05_marks.eq (s : Option Addr) (n : Int) (w : World) (K : Value → World → Prop) : cardindexlaw05_marks.W s n w K = fnW Try.prog Try.f27 (.named .auto) [.pointer s, .int .i64 n] w K := by kernel_rfl
theorem cardindexlaw05_marks.calls (ok : Okay Try.prog) {s : Option Addr} {n : Int} {w : World} {K : Value → World → Prop} (h : cardindexlaw05_marks.W s n w K) : CallsV Try.prog 27 #[.pointer s, .int .i64 n] w K :=
  fnW_calls ok Try.func27 (an := (.named .auto)) (args := [.pointer s, .int .i64 n]) (by rw [← cardindexlaw05_marks.eq]; exact h)
noncomputable def cardindexlaw05_awake.W : World → (Value → World → Prop) → Prop := fun (w : World) (K : Value → World → Prop) => CallsV Try.prog (15 : Nat) #[Value.int
 IntKind.i64 (4 : Int), Value.int IntKind.i64 (100 : Int)] w fun (v : Value) (w' : World) => ∃ (x : Option Addr), ∃ (x_1 : Int), v = Value.tuple #[Value.pointer x, Value.int
 IntKind.i64 x_1] ∧ CallsV Try.prog (26 : Nat) #[Value.pointer x] w' fun (v : Value) (w' : World) => ∃ (x_2 : Int), ∃ (x_3 : Int), v = Value.tuple #[Value.int
 IntKind.i64 x_2, Value.int IntKind.i64 x_3] ∧ bif !Decidable.decide (x_1 = (0 : Int)) then K (Value.bool Bool.false) w' else bif !Decidable.decide (x_3 = (0 : Int)) then K (Value.bool
 Bool.false) w' else bif !Decidable.decide (x_2 = (1 : Int)) then K (Value.bool Bool.false) w' else CallsV Try.prog (28 : Nat) #[Value.pointer x, Value.int IntKind.i64 (1 :
 Int), Value.string (ByteArray.mk #[(97 : UInt8)]), Value.string (ByteArray.mk #[(49 : UInt8)])] w' fun (v : Value) (w' : World) => ∃ (x_4 : Bool), v = Value.bool x_4 ∧ bif !x_4 then K
 (Value.bool Bool.false) w' else CallsV Try.prog (27 : Nat) #[Value.pointer x, Value.int IntKind.i64 (1 : Int)] w' fun (v : Value) (w' : World) => ∃ (x_5 : Bool), v =
 Value.bool x_5 ∧ bif !x_5 then K (Value.bool Bool.false) w' else CallsV Try.prog (28 : Nat) #[Value.pointer x, Value.int IntKind.i64 (1 : Int), Value.string
 (ByteArray.mk #[(97 : UInt8)]), Value.string (ByteArray.mk #[(50 : UInt8)])] w' fun (v : Value) (w' : World) => ∃ (x_6 : Bool), v = Value.bool x_6 ∧ bif !x_6 then K (Value.bool
 Bool.false) w' else CallsV Try.prog (28 : Nat) #[Value.pointer x, Value.int IntKind.i64 (1 : Int), Value.string (ByteArray.mk #[(98 : UInt8)]), Value.string (ByteArray.mk
 #[(51 : UInt8)])] w' fun (v : Value) (w' : World) => ∃ (x_7 : Bool), v = Value.bool x_7 ∧ bif !x_7 then K (Value.bool Bool.false) w' else CallsV Try.prog (27 : Nat)
 #[Value.pointer x, Value.int IntKind.i64 (2 : Int)] w' fun (v : Value) (w' : World) => ∃ (x_8 : Bool), v = Value.bool x_8 ∧ bif !x_8 then K (Value.bool Bool.false) w' else
 CallsV Try.prog (30 : Nat) #[Value.string (ByteArray.mk #[(97 : UInt8)])] w' fun (v : Value) (w' : World) => ∃ (x_9 : Option Addr), ∃ (x_10 : Nat), ∃ (x_11 : Nat), v =
 Value.slice x_9 x_10 x_11 ∧ CallsV Try.prog (40 : Nat) #[Value.pointer x, Value.int IntKind.i64 (1 : Int), Value.slice x_9 x_10 x_11] w' fun (v : Value) (w' :
 World) => ∃ (x_12 : Bool), ∃ (x_13 : Int), v = Value.tuple #[Value.bool x_12, Value.int IntKind.i64 x_13] ∧ CallsV Try.prog (26 : Nat) #[Value.pointer x] w' fun (v :
 Value) (w' : World) => ∃ (x_14 : Int), ∃ (x_15 : Int), v = Value.tuple #[Value.int IntKind.i64 x_14, Value.int IntKind.i64 x_15] ∧ bif !x_12 then K (Value.bool Bool.false) w'
 else bif !Decidable.decide (x_13 = (0 : Int)) then K (Value.bool Bool.false) w' else bif !Decidable.decide (x_14 = (2 : Int)) then K (Value.bool Bool.false) w' else bif !Decidable.decide (x_15 =
 (0 : Int)) then K (Value.bool Bool.false) w' else CallsV Try.prog (25 : Nat) #[Value.pointer x, Value.int IntKind.i64 (2 : Int)] w' fun (v : Value) (w' : World) => ∃
 (x_16 : Int), v = Value.int IntKind.i64 x_16 ∧ bif !Decidable.decide (x_16 = (0 : Int)) then K (Value.bool Bool.false) w' else CallsV Try.prog (74 : Nat) #[Value.pointer x,
 Value.int IntKind.i64 (1 : Int), Value.string (ByteArray.mk #[(97 : UInt8)]), Value.string (ByteArray.mk #[(50 : UInt8)])] w' fun (v : Value) (w' : World) => ∃ (x_17 : Bool), v =
 Value.bool x_17 ∧ bif !x_17 then K (Value.bool Bool.false) w' else CallsV Try.prog (74 : Nat) #[Value.pointer x, Value.int IntKind.i64 (1 : Int), Value.string
 (ByteArray.mk #[(98 : UInt8)]), Value.string (ByteArray.mk #[(51 : UInt8)])] w' fun (v : Value) (w' : World) => ∃ (x_18 : Bool), v = Value.bool x_18 ∧ bif !x_18 then K (Value.bool
 Bool.false) w' else CallsV Try.prog (33 : Nat) #[Value.pointer x] w' fun (v : Value) (w' : World) => ∃ (x_19 : Option Addr), ∃ (x_20 : Nat), ∃ (x_21 : Nat), v =
 Value.slice x_19 x_20 x_21 ∧ ∀ (g : Nat) (w'_1 : World), Fresh w' g w'_1 [Value.int IntKind.i64 (1 : Int)] (3 : Nat) → CallsV Try.prog (32 : Nat) #[Value.slice x_19
 x_20 x_21, Value.slice (Option.some (Addr.mk g (0 : Nat) Option.none)) (1 : Nat) (1 : Nat)] w'_1 fun (v : Value) (w' : World) => ∃ (x_22 : Bool), v = Value.bool x_22 ∧ bif !x_22 then K
 (Value.bool Bool.false) w' else CallsV Try.prog (25 : Nat) #[Value.pointer x, Value.int IntKind.i64 (1 : Int)] w' fun (v : Value) (w' : World) => ∃ (x_23 : Int), v =
 Value.int IntKind.i64 x_23 ∧ bif !Decidable.decide (x_23 = (0 : Int)) then K (Value.bool Bool.false) w' else CallsV Try.prog (74 : Nat) #[Value.pointer x, Value.int
 IntKind.i64 (1 : Int), Value.string (ByteArray.mk #[(97 : UInt8)]), Value.string (ByteArray.mk #[(49 : UInt8)])] w' fun (v : Value) (w' : World) => ∃ (x_24 : Bool), v = Value.bool
 x_24 ∧ bif !x_24 then K (Value.bool Bool.false) w' else CallsV Try.prog (34 : Nat) #[Value.pointer x, Value.int IntKind.i64 (1 : Int)] w' fun (v : Value) (w' : World)
 => ∃ (x_25 : Int), v = Value.int IntKind.i64 x_25 ∧ bif !Decidable.decide (x_25 = (1 : Int)) then K (Value.bool Bool.false) w' else CallsV Try.prog (25 : Nat)
 #[Value.pointer x, Value.int IntKind.i64 (1 : Int)] w' fun (v : Value) (w' : World) => ∃ (x_26 : Int), v = Value.int IntKind.i64 x_26 ∧ bif !Decidable.decide (x_26 = (60 : Int))
 then K (Value.bool Bool.false) w' else CallsV Try.prog (27 : Nat) #[Value.pointer x, Value.int IntKind.i64 (1 : Int)] w' fun (v : Value) (w' : World) => ∃ (x_27 :
 Bool), v = Value.bool x_27 ∧ bif !x_27 then K (Value.bool Bool.false) w' else CallsV Try.prog (28 : Nat) #[Value.pointer x, Value.int IntKind.i64 (1 : Int),
 Value.string (ByteArray.mk #[(99 : UInt8)]), Value.string (ByteArray.mk #[(52 : UInt8)])] w' fun (v : Value) (w' : World) => ∃ (x_28 : Bool), v = Value.bool x_28 ∧ bif !x_28 then K
 (Value.bool Bool.false) w' else CallsV Try.prog (19 : Nat) #[Value.pointer x, Value.int IntKind.i64 (1 : Int)] w' fun (v : Value) (w' : World) => ∃ (x_29 : Int), v =
 Value.int IntKind.i64 x_29 ∧ bif Decidable.decide (x_29 = (0 : Int)) then CallsV Try.prog (74 : Nat) #[Value.pointer x, Value.int IntKind.i64 (1 : Int), Value.string
 (ByteArray.mk #[(97 : UInt8)]), Value.string (ByteArray.mk #[(49 : UInt8)])] w' fun (v : Value) (w' : World) => ∃ (x_30 : Bool), v = Value.bool x_30 ∧ bif x_30 then CallsV
 Try.prog (74 : Nat) #[Value.pointer x, Value.int IntKind.i64 (1 : Int), Value.string (ByteArray.mk #[(99 : UInt8)]), Value.string (ByteArray.mk #[(52 : UInt8)])] w' fun (v :
 Value) (w' : World) => ∃ (x_31 : Bool), v = Value.bool x_31 ∧ bif x_31 then CallsV Try.prog (24 : Nat) #[Value.pointer x] w' fun (v : Value) (w' : World) => ∃ (x :
 Int), v = Value.int IntKind.i64 x ∧ K (Value.bool (Decidable.decide (x = (0 : Int)))) w' else K (Value.bool Bool.false) w' else K (Value.bool Bool.false) w' else K (Value.bool
 Bool.false) w'
theorem cardindexlaw05_awake.eq  (w : World) (K : Value → World → Prop) : cardindexlaw05_awake.W  w K = fnW Try.prog Try.f23 (.named .auto) [] w K := by kernel_rfl
theorem cardindexlaw05_awake.calls (ok : Okay Try.prog)  {w : World} {K : Value → World → Prop} (h : cardindexlaw05_awake.W  w K) : CallsV Try.prog 23 #[] w K :=
  fnW_calls ok Try.func23 (an := (.named .auto)) (args := []) (by rw [← cardindexlaw05_awake.eq]; exact h)
noncomputable def cardindexlow_SameInts.W : Option Addr → Nat → Nat → Option Addr → Nat → Nat → World → (Value → World → Prop) → Prop := fun (these_A : Option Addr) (these_n these_c : Nat) (those_A
 : Option Addr) (those_n those_c : Nat) (w : World) (K : Value → World → Prop) => bif !Decidable.decide ((↑these_n : Int) = (↑those_n : Int)) then K (Value.bool Bool.false) w else ∃ (I :
 Int → World → Prop), ∃ (μ : Int → World → Nat), I (IntKind.wrap IntKind.i64 ((↑these_n : Int) - (1 : Int))) w ∧ ∀ (x : Int) (w : World), I x w → bif Decidable.decide ((0 : Int) ≤ x) then
 ∃ (ad : Addr), these_A = Option.some ad ∧ ((0 : Int) ≤ x ∧ x < (↑these_n : Int)) ∧ ∃ (S : World → Prop), S (World.drew w) ∧ ∃ (x_1 : Int), (∀ (u : World), S u → World.cell? u
 (Addr.add ad (Int.toNat x * (1 : Nat))) = Option.some (Value.int IntKind.i64 x_1)) ∧ ∃ (ad : Addr), those_A = Option.some ad ∧ ((0 : Int) ≤ x ∧ x < (↑those_n : Int)) ∧ ∃ (x_2 : Int), (∀ (u
 : World), S u → World.cell? u (Addr.add ad (Int.toNat x * (1 : Nat))) = Option.some (Value.int IntKind.i64 x_2)) ∧ bif !Decidable.decide (x_1 = x_2) then K (Value.bool Bool.false)
 (World.drew w) else I (IntKind.wrap IntKind.i64 (x - (1 : Int))) (World.drew w) ∧ μ (IntKind.wrap IntKind.i64 (x - (1 : Int))) (World.drew w) < μ x w else K (Value.bool
 Bool.true) w
theorem cardindexlow_SameInts.eq (these_A : Option Addr) (these_n : Nat) (these_c : Nat) (those_A : Option Addr) (those_n : Nat) (those_c : Nat) (w : World) (K : Value → World → Prop) : cardindexlow_SameInts.W these_A these_n these_c those_A those_n those_c w K = fnW Try.prog Try.f32 (.named (.seq .auto (.seq .auto (.seq (.seq .auto (.block (.loop [(5, .one (.int .i64))] .auto))) .auto)))) [.slice these_A these_n these_c, .slice those_A those_n those_c] w K := by kernel_rfl
theorem cardindexlow_SameInts.calls (ok : Okay Try.prog) {these_A : Option Addr} {these_n : Nat} {these_c : Nat} {those_A : Option Addr} {those_n : Nat} {those_c : Nat} {w : World} {K : Value → World → Prop} (h : cardindexlow_SameInts.W these_A these_n these_c those_A those_n those_c w K) : CallsV Try.prog 32 #[.slice these_A these_n these_c, .slice those_A those_n those_c] w K :=
  fnW_calls ok Try.func32 (an := (.named (.seq .auto (.seq .auto (.seq (.seq .auto (.block (.loop [(5, .one (.int .i64))] .auto))) .auto))))) (args := [.slice these_A these_n these_c, .slice those_A those_n those_c]) (by rw [← cardindexlow_SameInts.eq]; exact h)
end Go.Proofs.Ythfagbfllheneaa
/- Layer 5: the statements' helpers, and the chapter's examples. -/
set_option linter.unusedVariables false
set_option linter.unusedSimpArgs false
namespace Go.Proofs.Ythfagbfllheneaa
open Go Go.Sx T4
def upF (F : List (Int × Es)) (id : Int) (es : Es) : List (Int × Es) := F.map fun p => if p.1 = id then (p.1, es) else p
def sizeF (F : List (Int × Es)) : Nat := (F.map fun p => 1 + p.2.length).sum
theorem upF_out {F : List (Int × Es)} {id : Int} {es : Es} (h : ∀ p ∈ F, p.1 ≠ id) : upF F id es = F := by
  unfold upF
  conv => rhs; rw [← List.map_id F]
  exact List.map_congr_left fun p hp => by rw [if_neg (h p hp)]; rfl
theorem fo_up {D1 D2 : List Tr} {d d' : Tr} (hn : ((D1 ++ d :: D2).map fun d => d.r).Nodup) (hr : d'.r = d.r) : foD (D1 ++ d' :: D2) = upF (foD (D1 ++ d :: D2)) d.r d'.es := by
  have hx := nd_mid hn
  have o1 : upF (foD D1) d.r d'.es = foD D1 := upF_out fun p hp => by
    obtain ⟨x, h, rfl⟩ := List.mem_map.1 hp; exact hx x (List.mem_append_left _ h)
  have o2 : upF (foD D2) d.r d'.es = foD D2 := upF_out fun p hp => by
    obtain ⟨x, h, rfl⟩ := List.mem_map.1 hp; exact hx x (List.mem_append_right _ h)
  have e : upF (foD (D1 ++ d :: D2)) d.r d'.es = upF (foD D1) d.r d'.es ++ (d.r, d'.es) :: upF (foD D2) d.r d'.es := by simp [upF, foD, fo]
  rw [e, o1, o2]
  simp [foD, fo, hr]
theorem nodes_size {A : Ar} {D : List Tr} (h : Inv A D) : A.nodes ≤ sizeF (foD D) := by
  rw [h.nodesE]
  unfold sizeF foD
  rw [List.map_map]
  have : ∀ (l : List Tr), (∀ d ∈ l, d ∈ D) → (l.map fun d => d.ps.length).sum ≤ (l.map ((fun p : Int × Es => 1 + p.2.length) ∘ fo)).sum := by
    intro l
    induction l with
    | nil => intro _; exact Nat.le_refl _
    | cons x l ih =>
      intro hl
      have h1 := ih fun d hd => hl d (by simp [hd])
      have h2 : x.ps.length ≤ 1 + x.es.length := (h.tree x (hl x (by simp))).places h.f1
      simp only [List.map_cons, List.sum_cons]
      have h3 : ((fun p : Int × Es => 1 + p.2.length) ∘ fo) x = 1 + x.es.length := rfl
      omega
  exact this D fun _ h => h
theorem tree_low {A : Ar} {D1 D2 : List Tr} {d : Tr} (h : Inv A (D1 ++ d :: D2)) : d.h ≤ A.nodes := by
  have h1 := h.at_.tree.height
  have h2 := h.at_.acc.nodes
  omega
section
variable {T : Nat → Prop} {u : World} {s : Nat} {A : Ar} {D : List Tr} {ms : List (Ar × List Tr)}
theorem kPut (h : Sto T u s ⟨A, D, ms⟩) {id : Int} {es : Es} (hg : gF (foD D) id = some es) (hroom : 2 * sizeF (foD D) + 1 ≤ A.most) {key val : Key} (hk : key.length ≤ 1048576) (hv : val.length ≤ 1048576) {Ω1 Ω2 : Nat → Prop} {KA VA : Option Addr} (iK : Imm KB Ω1 u KA key) (iV : Imm KB Ω2 u VA val) (kc vc : Nat) :
    CallsV Try.prog 29 #[.pointer (some ⟨s, 0, none⟩), .int .i64 id, .slice KA key.length kc, .slice VA val.length vc] u fun r u' => r = .tuple #[.bool (inE key es), .int .i64 0] ∧ ∃ A' D' T', Sto T' u' s ⟨A', D', ms⟩ ∧ Tch T u T' u' ∧ Same A A' ∧ foD D' = upF (foD D) id (insE key val es) := by
  obtain ⟨A', D', was, e, rel, hP⟩ := aPut (A := A) (D := D) h.inv id hk hv
  refine (hP h iK iV kc vc).mono ?_
  rintro _ u' ⟨rfl, T', h', c⟩
  rcases rel.rel with ⟨h1, _⟩ | ⟨D1, d, D2, d', full, hD, hr, rfl, hr', rfl, rfl, hfu, hno⟩
  · rw [hg] at h1; cases h1
  · have hI := h.inv
    replace hI : Inv A D := hI
    rw [hD] at hI
    have hes : d.es = es := by
      have : gF (foD D) id = some d.es := by
        rw [hD, ← hr]
        exact gF_nd hI.ndF (k := D1.length) (by simp [foD, fo])
      rw [hg] at this; exact (Option.some.inj this).symm
    have : full = false := by
      cases full with
      | false => rfl
      | true => have h1 := (hfu rfl).2.2.2; have := nodes_size hI; have := tree_low hI; rw [← hD] at *; omega
    subst this
    refine ⟨by rw [hes]; simp, A', _, T', h', c, rel.same, ?_⟩
    rw [fo_up hI.nd hr', hno rfl, hr, hes, ← hD]
theorem kDel (h : Sto T u s ⟨A, D, ms⟩) {id : Int} {es : Es} (hg : gF (foD D) id = some es) (key : Key) {Ω1 : Nat → Prop} {KA : Option Addr} (iK : Imm KB Ω1 u KA key) (kc : Nat) :
    CallsV Try.prog 40 #[.pointer (some ⟨s, 0, none⟩), .int .i64 id, .slice KA key.length kc] u fun r u' => r = .tuple #[.bool (inE key es), .int .i64 0] ∧ ∃ A' D' T', Sto T' u' s ⟨A', D', ms⟩ ∧ Tch T u T' u' ∧ Same A A' ∧ foD D' = upF (foD D) id (delE key es) := by
  obtain ⟨A', D', was, e, rel, hP⟩ := aDel (A := A) (D := D) h.inv id key
  refine (hP h iK kc).mono ?_
  rintro _ u' ⟨rfl, T', h', c⟩
  rcases rel.rel with ⟨h1, _⟩ | ⟨D1, d, D2, d', hD, hr, rfl, hr', rfl, rfl, he⟩
  · rw [hg] at h1; cases h1
  · have hI := h.inv
    replace hI : Inv A D := hI
    rw [hD] at hI
    have hes : d.es = es := by
      have : gF (foD D) id = some d.es := by
        rw [hD, ← hr]
        exact gF_nd hI.ndF (k := D1.length) (by simp [foD, fo])
      rw [hg] at this; exact (Option.some.inj this).symm
    refine ⟨by rw [hes], A', _, T', h', c, rel.same, ?_⟩
    rw [fo_up hI.nd hr', he, hr, hes, ← hD]
theorem kCreate (h : Sto T u s ⟨A, D, ms⟩) (hl : A.last < 1000000) (hroom : sizeF (foD D) < A.most) (hD : D.length < 1000) :
    CallsV Try.prog 26 #[.pointer (some ⟨s, 0, none⟩)] u fun r u' => r = .tuple #[iv (A.last + 1), .int .i64 0] ∧ ∃ A' D' T', Sto T' u' s ⟨A', D', ms⟩ ∧ Tch T u T' u' ∧ A'.fan = A.fan ∧ A'.most = A.most ∧ A'.last = A.last + 1 ∧ foD D' = foD D ++ [(((A.last + 1 : Nat) : Int), [])] := by
  obtain ⟨A', D', n, e, rel, hP⟩ := aCreate (A := A) (D := D) h.inv hl
  refine (hP h).mono ?_
  rintro _ u' ⟨rfl, T', h', c⟩
  rcases rel.rel with ⟨_, _, h3, rfl, rfl, i, rfl⟩ | ⟨hf, _⟩
  · exact ⟨rfl, A', _, T', h', c, rel.fan, rel.most, h3, by simp [foD, fo]⟩
  · have hI : Inv A D := h.inv
    have := nodes_size hI; omega
/-! ## the helpers -/
theorem b_spec (w : World) (l : List UInt8) (hl : l.length ≤ 1048576) : CallsV Try.prog 30 #[.string ⟨l.toArray⟩] w fun r w' => ∃ A c, r = .slice A l.length c ∧ OwnB w' A c l ∧ Ext w w' ∧ New w A := by
  refine cardindexlaw05_b.calls okay ?_
  unfold cardindexlaw05_b.W
  obtain ⟨A, c, w', h1, h2, h3, h4, _⟩ := to_bytes bt w ⟨l.toArray⟩ (by show l.toArray.size ≤ maxLen; simp [maxLen]; omega)
  have e : sb ⟨l.toArray⟩ = l := rfl
  rw [e] at h1 h2
  exact ⟨_, _, _, _, h1, A, c, rfl, h2, h3, h4⟩
theorem is5_spec (h : Sto T u s ⟨A, D, ms⟩) (id : Int) (key want : Key) (hk : key.length ≤ 1048576) (hw : (gF (foD D) id).bind (getE key) = some want) (hn : want ≠ []) :
    CallsV Try.prog 74 #[.pointer (some ⟨s, 0, none⟩), .int .i64 id, .string ⟨key.toArray⟩, .string ⟨want.toArray⟩] u fun r u' => r = .bool true ∧ Ext u u' := by
  refine cardindexlaw05_is.calls okay ?_
  unfold cardindexlaw05_is.W
  refine (b_spec u key hk).mono ?_
  rintro _ u1 ⟨KA, kc, rfl, o1, e1, _⟩
  refine ⟨_, _, _, rfl, (sGet (h.ext e1) id o1.imm0 kc).mono ?_⟩
  rintro r u2 ⟨e2, hg⟩
  replace hg : GetR u1 u2 ((gF (foD D) id).bind (getE key)) r := hg
  rw [hw] at hg
  obtain ⟨B, d, rfl, o2, _, _⟩ := hg
  have e0 : (ByteArray.toList ⟨want.toArray⟩ == ByteArray.toList (ByteArray.mk #[])) = decide (want = []) := eq_str want []
  rw [e0]
  refine ⟨_, _, _, _, rfl, brd (fun _ => ⟨_, _, to_str bt o2.imm0 d, by rw [eq_str, decide_eq_true rfl], e1.trans' e2⟩) fun hh => absurd (by rw [decide_eq_false hn]; rfl) hh⟩
theorem puts_spec (h : Sto T u s ⟨A, D, ms⟩) {id : Int} {es : Es} (hg : gF (foD D) id = some es) (hroom : 2 * sizeF (foD D) + 1 ≤ A.most) {key val : Key} (hk : key.length ≤ 1048576) (hv : val.length ≤ 1048576) :
    CallsV Try.prog 28 #[.pointer (some ⟨s, 0, none⟩), .int .i64 id, .string ⟨key.toArray⟩, .string ⟨val.toArray⟩] u fun r u' => r = .bool true ∧ ∃ A' D' T', Sto T' u' s ⟨A', D', ms⟩ ∧ Tch T u T' u' ∧ Same A A' ∧ foD D' = upF (foD D) id (insE key val es) := by
  refine cardindexlaw05_puts.calls okay ?_
  unfold cardindexlaw05_puts.W
  refine (b_spec u key hk).mono ?_
  rintro _ u1 ⟨KA, kc, rfl, o1, e1, _⟩
  refine ⟨_, _, _, rfl, (b_spec u1 val hv).mono ?_⟩
  rintro _ u2 ⟨VA, vc, rfl, o2, e2, _⟩
  have e12 := e1.trans' e2
  refine ⟨_, _, _, rfl, (kPut (h.ext e12) hg hroom hk hv (o1.ext e2).imm0 o2.imm0 kc vc).mono ?_⟩
  rintro _ u3 ⟨rfl, A', D', T', h', c, hs, hF⟩
  exact ⟨_, _, rfl, rfl, A', D', T', h', (Tch.ext e12).trans c, hs, hF⟩
theorem marks_spec (h : Sto T u s ⟨A, D, ms⟩) (hl : ms.length < 100) (n : Int) (hn : n = (ms.length : Int) + 1) :
    CallsV Try.prog 27 #[.pointer (some ⟨s, 0, none⟩), .int .i64 n] u fun r u' => r = .bool true ∧ ∃ T', Sto T' u' s ⟨A, D, ms ++ [(A, D)]⟩ ∧ Tch T u T' u' := by
  refine cardindexlaw05_marks.calls okay ?_
  unfold cardindexlaw05_marks.W
  refine (aMark h).mono ?_
  rintro _ u1 (⟨hge, _⟩ | ⟨_, rfl, T', h', c⟩)
  · exact absurd hge (by show ¬ 100 ≤ ms.length; omega)
  · refine ⟨_, _, rfl, brd (fun _ => brd (fun _ => (sMarks h').same ⟨_, rfl, ?_, T', h', c⟩) fun h => absurd rfl h) fun hne => absurd (by rw [hn]; rfl) hne⟩
    rw [decide_eq_true]
    show ((ms ++ [(A, D)]).length : Int) = n
    rw [hn]; simp
theorem SameInts_spec {w : World} {Ω Ω' : Nat → Prop} {A B : Option Addr} {c d : Nat} {l m : List Int} (h : Imm KI Ω w A l) (h' : Imm KI Ω' w B m) (hl : l.length ≤ 1000000) :
    CallsV Try.prog 32 #[.slice A l.length c, .slice B m.length d] w fun r w' => r = .bool (decide (l = m)) ∧ Ext w w' := by
  refine cardindexlow_SameInts.calls okay ?_
  unfold cardindexlow_SameInts.W
  refine brn (fun hne => ?_) (fun he => ?_)
  · rw [decide_eq_false fun e => hne (by rw [e])]; exact ⟨rfl, .refl _ _⟩
  · have hlm : l.length = m.length := by omega
    refine ⟨fun x u => ∃ j : Nat, j ≤ l.length ∧ x = (j : Int) - 1 ∧ Ext w u ∧ l.drop j = m.drop j, fun x _ => (x + 1).toNat, ⟨l.length, Nat.le_refl _, wi _ (by omega) (by omega), .refl _ _, by rw [List.drop_length, hlm, List.drop_length]⟩, ?_⟩
    rintro _ u ⟨j, hj, rfl, e, hd⟩
    refine brd (fun hpos => ?_) (fun hneg => ?_)
    · obtain ⟨i, rfl⟩ : ∃ i, j = i + 1 := ⟨j - 1, by omega⟩
      have hi : ((i + 1 : Nat) : Int) - 1 = (i : Int) := by omega
      rw [hi]
      obtain ⟨ad, hA, c0⟩ := itemI h (j := i) (by omega)
      obtain ⟨bd, hB, c1⟩ := itemI h' (j := i) (by omega)
      have ed : Ext w u.drew := e.drew
      refine ⟨ad, hA, ⟨by omega, by omega⟩, fun v => Ext w v, ed, _, fun v ev => by rw [Int.toNat_natCast]; exact Ext.cell ev c0, bd, hB, ⟨by omega, by omega⟩, _, fun v ev => by rw [Int.toNat_natCast]; exact Ext.cell ev c1, brn (fun hne => ?_) (fun heq => ?_)⟩
      · rw [decide_eq_false]
        · exact ⟨rfl, ed⟩
        · rintro rfl; exact hne rfl
      · rw [wi _ (by omega) (by omega)]
        refine ⟨⟨i, by omega, rfl, ed, ?_⟩, by dsimp only; omega⟩
        rw [List.drop_eq_getElem_cons (show i < l.length by omega), List.drop_eq_getElem_cons (show i < m.length by omega), heq, hd]
    · obtain rfl : j = 0 := by omega
      rw [decide_eq_true (by simpa using hd)]
      exact ⟨rfl, e⟩
end
set_option maxRecDepth 100000 in
set_option maxHeartbeats 1000000 in
theorem awake_spec (w : World) : CallsV Try.prog 23 #[] w fun r w' => r = .bool true ∧ Ext w w' := by
  refine cardindexlaw05_awake.calls okay ?_
  unfold cardindexlaw05_awake.W
  refine (aNew w 4 100 (by decide) (by decide) (by decide) (by decide)).mono ?_
  rintro _ u0 ⟨s, T0, rfl, h0, e0, t0⟩
  refine ⟨_, _, rfl, (kCreate h0 (by decide) (by decide) (by decide)).mono ?_⟩
  rintro _ u1 ⟨rfl, A1, D1, T1, h1, c1, f1, m1, l1, F1⟩
  obtain ⟨x1, t1⟩ := c1.keepExt e0 t0
  replace F1 : foD D1 = [(1, [])] := F1
  replace m1 : A1.most = 100 := m1
  replace l1 : A1.last = 1 := l1
  refine ⟨_, _, rfl, brn (fun h => absurd rfl h) fun _ => brn (fun h => absurd rfl h) fun _ => brn (fun h => absurd rfl h) fun _ => ?_⟩
  refine (puts_spec (es := []) (key := [97]) (val := [49]) h1 (id := 1) (by rw [F1]; rfl) (by rw [F1, m1]; decide) (by decide) (by decide)).mono ?_
  rintro _ u2 ⟨rfl, A2, D2, T2, h2, c2, s2, F2⟩
  obtain ⟨x2, t2⟩ := c2.keepExt x1 t1
  rw [F1] at F2
  replace F2 : foD D2 = [(1, [([97], [49])])] := F2
  have m2 := s2.most.trans m1
  have l2 := s2.last.trans l1
  refine ⟨_, rfl, brnb (fun h => by cases h) fun _ => (marks_spec h2 (by decide) 1 rfl).mono ?_⟩
  rintro _ u3 ⟨rfl, T3, h3, c3⟩
  obtain ⟨x3, t3⟩ := c3.keepExt x2 t2
  refine ⟨_, rfl, brnb (fun h => by cases h) fun _ => (puts_spec (es := [([97], [49])]) (key := [97]) (val := [50]) h3 (id := 1) (by rw [F2]; rfl) (by rw [F2, m2]; decide) (by decide) (by decide)).mono ?_⟩
  rintro _ u4 ⟨rfl, A4, D4, T4, h4, c4, s4, F4⟩
  obtain ⟨x4, t4⟩ := c4.keepExt x3 t3
  rw [F2] at F4
  replace F4 : foD D4 = [(1, [([97], [50])])] := F4
  have m4 := s4.most.trans m2
  have l4 := s4.last.trans l2
  refine ⟨_, rfl, brnb (fun h => by cases h) fun _ => (puts_spec (es := [([97], [50])]) (key := [98]) (val := [51]) h4 (id := 1) (by rw [F4]; rfl) (by rw [F4, m4]; decide) (by decide) (by decide)).mono ?_⟩
  rintro _ u5 ⟨rfl, A5, D5, T5, h5, c5, s5, F5⟩
  obtain ⟨x5, t5⟩ := c5.keepExt x4 t4
  rw [F4] at F5
  replace F5 : foD D5 = [(1, [([97], [50]), ([98], [51])])] := F5
  have m5 := s5.most.trans m4
  have l5 := s5.last.trans l4
  refine ⟨_, rfl, brnb (fun h => by cases h) fun _ => (marks_spec h5 (show 1 < 100 by decide) 2 rfl).mono ?_⟩
  rintro _ u6 ⟨rfl, T6, h6, c6⟩
  obtain ⟨x6, t6⟩ := c6.keepExt x5 t5
  refine ⟨_, rfl, brnb (fun h => by cases h) fun _ => (b_spec u6 [97] (by decide)).mono ?_⟩
  rintro _ u7 ⟨KA, kc, rfl, o7, e7, _⟩
  refine ⟨_, _, _, rfl, (kDel (h6.ext e7) (es := [([97], [50]), ([98], [51])]) (id := 1) (by rw [F5]; rfl) [97] o7.imm0 kc).mono ?_⟩
  rintro _ u8 ⟨rfl, A8, D8, T8, h8, c8, s8, F8⟩
  obtain ⟨x8, t8⟩ := c8.keepExt (x6.trans' e7) t6
  rw [F5] at F8
  replace F8 : foD D8 = [(1, [([98], [51])])] := F8
  have m8 := s8.most.trans m5
  have l8 := s8.last.trans l5
  refine ⟨_, _, rfl, (kCreate h8 (by rw [l8]; decide) (by rw [F8, m8]; decide) (by have : (foD D8).length = 1 := by rw [F8]; rfl
                                                                                   rw [List.length_map] at this; omega)).mono ?_⟩
  rintro _ u9 ⟨rfl, A9, D9, T9, h9, c9, _, _, _, _⟩
  obtain ⟨x9, t9⟩ := c9.keepExt x8 t8
  rw [l8]
  refine ⟨_, _, rfl, brnb (fun h => absurd h (by decide)) fun _ => brn (fun h => absurd rfl h) fun _ => brn (fun h => absurd rfl h) fun _ => brn (fun h => absurd rfl h) fun _ => (aBack h9 2).mono ?_⟩
  rintro _ u10 (⟨hb, _⟩ | ⟨_, _, rfl, B, D', T10, hms, h10, c10⟩)
  · exact absurd hb (by show ¬ ((2 : Int) < 1 ∨ ((2 : Nat) : Int) < 2); decide)
  obtain ⟨rfl, rfl⟩ : B = A5 ∧ D' = D5 := by have := Option.some.inj hms; exact ⟨(Prod.mk.inj this).1.symm, (Prod.mk.inj this).2.symm⟩
  obtain ⟨x10, t10⟩ := c10.keepExt x9 t9
  refine ⟨_, rfl, brn (fun h => absurd rfl h) fun _ => (is5_spec h10 1 [97] [50] (by decide) (by rw [F5]; rfl) (by decide)).mono ?_⟩
  rintro _ u11 ⟨rfl, e11⟩
  refine ⟨_, rfl, brnb (fun h => by cases h) fun _ => (is5_spec (h10.ext e11) 1 [98] [51] (by decide) (by rw [F5]; rfl) (by decide)).mono ?_⟩
  rintro _ u12 ⟨rfl, e12⟩
  have h12 := (h10.ext e11).ext e12
  refine ⟨_, rfl, brnb (fun h => by cases h) fun _ => (sTrees h12).mono ?_⟩
  rintro _ u13 ⟨IA, ic, rfl, o13, e13, _⟩
  have hids : idsD D' = [1] := by
    have : (foD D').map (fun p => p.1) = [1] := by rw [F5]; rfl
    rw [← this]; simp [foD, fo, idsD]
  replace o13 : OwnK KI u13 IA ic (idsD D') := o13
  rw [show idsD (⟨B, D', [(A2, D2)]⟩ : Ab).D = [1] from hids]
  rw [hids] at o13
  refine ⟨_, _, _, rfl, ?_⟩
  intro gx u14 f14
  refine (SameInts_spec (l := [1]) (m := [1]) (d := 1) ((o13.imm KI_pos).ext KI_pos f14.ext) (f14.imm (Ω := NoB) (fun h => h) KI_pos rfl (by simp [maxLen]) (fun i a ha => by cases i with | zero => simp at ha; subst ha; rfl | succ i => simp at ha)) (by decide)).mono ?_
  rintro _ u15 ⟨rfl, e15⟩
  have h15 := ((h12.ext e13).ext f14.ext).ext e15
  have x15 : Ext w u15 := ((((x10.trans' e11).trans' e12).trans' e13).trans' f14.ext).trans' e15
  refine ⟨_, rfl, brnb (fun h => absurd h (by decide)) fun _ => (aBack h15 1).mono ?_⟩
  rintro _ u16 (⟨hb, _⟩ | ⟨_, _, rfl, B2, D2', T16, hms, h16, c16⟩)
  · exact absurd hb (by show ¬ ((1 : Int) < 1 ∨ ((1 : Nat) : Int) < 1); decide)
  obtain ⟨rfl, rfl⟩ : B2 = A2 ∧ D2' = D2 := by have := Option.some.inj hms; exact ⟨(Prod.mk.inj this).1.symm, (Prod.mk.inj this).2.symm⟩
  obtain ⟨x16, t16⟩ := c16.keepExt x15 t10
  refine ⟨_, rfl, brn (fun h => absurd rfl h) fun _ => (is5_spec h16 1 [97] [49] (by decide) (by rw [F2]; rfl) (by decide)).mono ?_⟩
  rintro _ u17 ⟨rfl, e17⟩
  refine ⟨_, rfl, brnb (fun h => by cases h) fun _ => (sLen (h16.ext e17) 1).mono ?_⟩
  rintro _ u18 ⟨rfl, e18⟩
  have h18 := (h16.ext e17).ext e18
  refine ⟨_, rfl, brn (fun h => absurd (by show ((lenO (gF (foD D2') 1) : Nat) : Int) = 1; rw [F2]; rfl) h) fun _ => (aBack h18 1).mono ?_⟩
  rintro r19 u19 h19
  obtain ⟨rfl, rfl⟩ : r19 = .int .i64 60 ∧ u19 = u18 := h19.elim (fun h => ⟨h.2.1, h.2.2⟩) fun h => absurd h.2.1 (by show ¬ ((1 : Int) ≤ ((0 : Nat) : Int)); decide)
  refine ⟨_, rfl, brn (fun h => absurd rfl h) fun _ => (marks_spec h18 (show 0 < 100 by decide) 1 rfl).mono ?_⟩
  rintro _ u20 ⟨rfl, T20, h20, c20⟩
  obtain ⟨x20, t20⟩ := c20.keepExt ((x16.trans' e17).trans' e18) t16
  refine ⟨_, rfl, brnb (fun h => by cases h) fun _ => (puts_spec (es := [([97], [49])]) (key := [99]) (val := [52]) h20 (id := 1) (by rw [F2]; rfl) (by rw [F2, m2]; decide) (by decide) (by decide)).mono ?_⟩
  rintro _ u21 ⟨rfl, A21, D21, T21, h21, c21, s21, F21⟩
  obtain ⟨x21, t21⟩ := c21.keepExt x20 t20
  rw [F2] at F21
  replace F21 : foD D21 = [(1, [([97], [49]), ([99], [52])])] := F21
  refine ⟨_, rfl, brnb (fun h => by cases h) fun _ => (aFree h21 1).mono ?_⟩
  rintro _ u22 (⟨hb, _⟩ | ⟨_, _, rfl, T22, h22, c22⟩)
  · exact absurd hb (by show ¬ ((1 : Int) < 1 ∨ ((1 : Nat) : Int) < 1); decide)
  obtain ⟨x22, t22⟩ := c22.keepExt x21 t21
  replace h22 : Sto T22 u22 s ⟨A21, D21, []⟩ := h22
  refine ⟨_, rfl, brd (fun _ => (is5_spec h22 1 [97] [49] (by decide) (by rw [F21]; rfl) (by decide)).mono ?_) fun h => absurd rfl h⟩
  rintro _ u23 ⟨rfl, e23⟩
  refine ⟨_, rfl, br (fun _ => (is5_spec (h22.ext e23) 1 [99] [52] (by decide) (by rw [F21]; rfl) (by decide)).mono ?_) fun h => by cases h⟩
  rintro _ u24 ⟨rfl, e24⟩
  refine ⟨_, rfl, br (fun _ => (sMarks ((h22.ext e23).ext e24)).same ⟨_, rfl, rfl, (x22.trans' e23).trans' e24⟩) fun h => by cases h⟩
end Go.Proofs.Ythfagbfllheneaa
/- The preconditions of Go functions, printed by a program of this workplace (nests.py); each is proved to be the engine's own. -/
set_option linter.unusedVariables false
set_option maxRecDepth 100000
namespace Go.Proofs.Ythfagbfllheneaa
open Go Go.Sx
noncomputable def cardindexlaw05_UndoNumbers.W : World → (Value → World → Prop) → Prop := fun (w : World) (K : Value → World → Prop) => CallsV Try.prog (15 : Nat)
 #[Value.int IntKind.i64 (3 : Int), Value.int IntKind.i64 (1 : Int)] w fun (v : Value) (w' : World) => ∃ (x : Option Addr), ∃ (x_1 : Int), v = Value.tuple #[Value.pointer x,
 Value.int IntKind.i64 x_1] ∧ CallsV Try.prog (15 : Nat) #[Value.int IntKind.i64 (4 : Int), Value.int IntKind.i64 (0 : Int)] w' fun (v : Value) (w' : World) => ∃
 (x : Option Addr), ∃ (x_2 : Int), v = Value.tuple #[Value.pointer x, Value.int IntKind.i64 x_2] ∧ CallsV Try.prog (15 : Nat) #[Value.int IntKind.i64 (4 : Int),
 Value.int IntKind.i64 (1 : Int)] w' fun (v : Value) (w' : World) => ∃ (x : Option Addr), ∃ (x_3 : Int), v = Value.tuple #[Value.pointer x, Value.int IntKind.i64 x_3] ∧
 CallsV Try.prog (26 : Nat) #[Value.pointer x] w' fun (v : Value) (w' : World) => ∃ (x_4 : Int), ∃ (x_5 : Int), v = Value.tuple #[Value.int IntKind.i64 x_4,
 Value.int IntKind.i64 x_5] ∧ bif !Decidable.decide (x_1 = (2 : Int)) then K (Value.bool Bool.false) w' else bif !Decidable.decide (x_2 = (2 : Int)) then K (Value.bool Bool.false) w' else
 bif !Decidable.decide (x_3 = (0 : Int)) then K (Value.bool Bool.false) w' else bif !Decidable.decide (x_5 = (0 : Int)) then K (Value.bool Bool.false) w' else ∃ (I : Int → World → Prop), ∃ (μ :
 Int → World → Nat), I (1 : Int) w' ∧ ∀ (x_6 : Int) (w : World), I x_6 w → bif Decidable.decide (x_6 ≤ (100 : Int)) then CallsV Try.prog (27 : Nat) #[Value.pointer x,
 Value.int IntKind.i64 x_6] w fun (v : Value) (w' : World) => ∃ (x : Bool), v = Value.bool x ∧ bif !x then K (Value.bool Bool.false) w' else I (IntKind.wrap IntKind.i64 (x_6 + (1
 : Int))) w' ∧ μ (IntKind.wrap IntKind.i64 (x_6 + (1 : Int))) w' < μ x_6 w else CallsV Try.prog (18 : Nat) #[Value.pointer x] w fun (v : Value) (w' : World) => ∃ (x_7 :
 Int), ∃ (x_8 : Int), v = Value.tuple #[Value.int IntKind.i64 x_7, Value.int IntKind.i64 x_8] ∧ CallsV Try.prog (25 : Nat) #[Value.pointer x, Value.int
 IntKind.i64 (0 : Int)] w' fun (v : Value) (w' : World) => ∃ (x_9 : Int), v = Value.int IntKind.i64 x_9 ∧ bif Decidable.decide (x_9 = (60 : Int)) then CallsV Try.prog (25
 : Nat) #[Value.pointer x, Value.int IntKind.i64 (101 : Int)] w' fun (v : Value) (w' : World) => ∃ (x_10 : Int), v = Value.int IntKind.i64 x_10 ∧ bif Decidable.decide (x_10 = (60 :
 Int)) then CallsV Try.prog (19 : Nat) #[Value.pointer x, Value.int IntKind.i64 (0 : Int)] w' fun (v : Value) (w' : World) => ∃ (x_11 : Int), v = Value.int
 IntKind.i64 x_11 ∧ bif Decidable.decide (x_11 = (60 : Int)) then CallsV Try.prog (19 : Nat) #[Value.pointer x, Value.int IntKind.i64 (-1 : Int)] w' fun (v : Value) (w' :
 World) => ∃ (x_12 : Int), v = Value.int IntKind.i64 x_12 ∧ bif Decidable.decide (x_12 = (60 : Int)) then CallsV Try.prog (19 : Nat) #[Value.pointer x, Value.int
 IntKind.i64 (101 : Int)] w' fun (v : Value) (w' : World) => ∃ (x_13 : Int), v = Value.int IntKind.i64 x_13 ∧ ∀ (g : Nat) (w'_1 : World), Fresh w' g w'_1 [Value.string
 (ByteArray.mk #[(97 : UInt8)]), Value.string (ByteArray.mk #[(98 : UInt8)]), Value.string (ByteArray.mk #[(99 : UInt8)]), Value.string (ByteArray.mk #[(100 : UInt8)])] (9 : Nat) → ∃ (I : Int →
 World → Prop), ∃ (μ : Int → World → Nat), I (0 : Int) w'_1 ∧ ∀ (x_14 : Int) (w : World), I x_14 w → bif Decidable.decide (x_14 < (↑(4 : Nat) : Int)) then ∃ (ad : Addr), Option.some
 (Addr.mk g (0 : Nat) Option.none) = Option.some ad ∧ ((0 : Int) ≤ x_14 ∧ x_14 < (↑(4 : Nat) : Int)) ∧ ∃ (x_15 : ByteArray), World.cell? w (Addr.add ad (Int.toNat x_14 * (1 : Nat))) =
 Option.some (Value.string x_15) ∧ CallsV Try.prog (28 : Nat) #[Value.pointer x, Value.int IntKind.i64 (1 : Int), Value.string x_15, Value.string x_15] w fun (v :
 Value) (w' : World) => ∃ (x : Bool), v = Value.bool x ∧ bif !x then K (Value.bool Bool.false) w' else I (IntKind.wrap IntKind.i64 (x_14 + (1 : Int))) w' ∧ μ (IntKind.wrap
 IntKind.i64 (x_14 + (1 : Int))) w' < μ x_14 w else CallsV Try.prog (30 : Nat) #[Value.string (ByteArray.mk #[(101 : UInt8)])] w fun (v : Value) (w' : World) => ∃ (x_15 :
 Option Addr), ∃ (x_16 : Nat), ∃ (x_17 : Nat), v = Value.slice x_15 x_16 x_17 ∧ CallsV Try.prog (29 : Nat) #[Value.pointer x, Value.int IntKind.i64 (1 : Int),
 Value.slice x_15 x_16 x_17, Value.slice Option.none (0 : Nat) (0 : Nat)] w' fun (v : Value) (w' : World) => ∃ (x_18 : Bool), ∃ (x_19 : Int), v = Value.tuple #[Value.bool x_18,
 Value.int IntKind.i64 x_19] ∧ CallsV Try.prog (31 : Nat) #[Value.pointer x, Value.int IntKind.i64 (1 : Int)] w' fun (v : Value) (w' : World) => ∃ (x_20 : Int), v =
 Value.int IntKind.i64 x_20 ∧ CallsV Try.prog (26 : Nat) #[Value.pointer x] w' fun (v : Value) (w' : World) => ∃ (x_21 : Int), ∃ (x_22 : Int), v = Value.tuple
 #[Value.int IntKind.i64 x_21, Value.int IntKind.i64 x_22] ∧ bif !Decidable.decide (x_8 = (5 : Int)) then K (Value.bool Bool.false) w' else bif !Decidable.decide (x_13 = (60 : Int)) then
 K (Value.bool Bool.false) w' else bif !Decidable.decide (x_19 = (5 : Int)) then K (Value.bool Bool.false) w' else bif !Decidable.decide (x_20 = (0 : Int)) then K (Value.bool Bool.false) w'
 else bif !Decidable.decide (x_21 = (2 : Int)) then K (Value.bool Bool.false) w' else bif !Decidable.decide (x_22 = (0 : Int)) then K (Value.bool Bool.false) w' else CallsV
 Try.prog (28 : Nat) #[Value.pointer x, Value.int IntKind.i64 (2 : Int), Value.string (ByteArray.mk #[(120 : UInt8)]), Value.string (ByteArray.mk #[(121 : UInt8)])] w' fun (v :
 Value) (w' : World) => ∃ (x_23 : Bool), v = Value.bool x_23 ∧ bif !x_23 then K (Value.bool Bool.false) w' else CallsV Try.prog (25 : Nat) #[Value.pointer x, Value.int
 IntKind.i64 (50 : Int)] w' fun (v : Value) (w' : World) => ∃ (x_24 : Int), v = Value.int IntKind.i64 x_24 ∧ CallsV Try.prog (30 : Nat) #[Value.string (ByteArray.mk
 #[(122 : UInt8)])] w' fun (v : Value) (w' : World) => ∃ (x_25 : Option Addr), ∃ (x_26 : Nat), ∃ (x_27 : Nat), v = Value.slice x_25 x_26 x_27 ∧ CallsV Try.prog (29 : Nat)
 #[Value.pointer x, Value.int IntKind.i64 (1 : Int), Value.slice Option.none (0 : Nat) (0 : Nat), Value.slice x_25 x_26 x_27] w' fun (v : Value) (w' : World) => ∃ (x_28 : Bool), ∃
 (x_29 : Int), v = Value.tuple #[Value.bool x_28, Value.int IntKind.i64 x_29] ∧ bif Decidable.decide (x_24 = (0 : Int)) then CallsV Try.prog (24 : Nat) #[Value.pointer x]
 w' fun (v : Value) (w' : World) => ∃ (x_30 : Int), v = Value.int IntKind.i64 x_30 ∧ bif Decidable.decide (x_30 = (49 : Int)) then CallsV Try.prog (33 : Nat)
 #[Value.pointer x] w' fun (v : Value) (w' : World) => ∃ (x_31 : Option Addr), ∃ (x_32 : Nat), ∃ (x_33 : Nat), v = Value.slice x_31 x_32 x_33 ∧ ∀ (g : Nat) (w'_2 : World), Fresh
 w' g w'_2 [Value.int IntKind.i64 (1 : Int)] (3 : Nat) → CallsV Try.prog (32 : Nat) #[Value.slice x_31 x_32 x_33, Value.slice (Option.some (Addr.mk g (0 : Nat)
 Option.none)) (1 : Nat) (1 : Nat)] w'_2 fun (v : Value) (w' : World) => ∃ (x_34 : Bool), v = Value.bool x_34 ∧ bif x_34 then bif !x_28 then bif Decidable.decide (x_29 = (0 : Int)) then
 CallsV Try.prog (19 : Nat) #[Value.pointer x, Value.int IntKind.i64 (1 : Int)] w' fun (v : Value) (w' : World) => ∃ (x_35 : Int), v = Value.int IntKind.i64 x_35 ∧
 bif Decidable.decide (x_35 = (0 : Int)) then CallsV Try.prog (24 : Nat) #[Value.pointer x] w' fun (v : Value) (w' : World) => ∃ (x_36 : Int), v = Value.int IntKind.i64
 x_36 ∧ bif Decidable.decide (x_36 = (0 : Int)) then CallsV Try.prog (34 : Nat) #[Value.pointer x, Value.int IntKind.i64 (1 : Int)] w' fun (v : Value) (w' : World) => ∃
 (x_37 : Int), v = Value.int IntKind.i64 x_37 ∧ bif Decidable.decide (x_37 = (1 : Int)) then CallsV Try.prog (35 : Nat) #[Value.pointer x] w' fun (v : Value) (w' : World)
 => ∃ (x : Int), v = Value.int IntKind.i64 x ∧ bif Decidable.decide (x = (0 : Int)) then CallsV Try.prog (23 : Nat) #[] w' fun (v : Value) (w' : World) => ∃ (x : Bool), v =
 Value.bool x ∧ K (Value.bool x) w' else K (Value.bool Bool.false) w' else K (Value.bool Bool.false) w' else K (Value.bool Bool.false) w' else K (Value.bool Bool.false) w' else K
 (Value.bool Bool.false) w' else K (Value.bool Bool.false) w' else K (Value.bool Bool.false) w' else K (Value.bool Bool.false) w' else K (Value.bool Bool.false) w' else ∀ (g : Nat) (w'_1
 : World), Fresh w' g w'_1 [Value.string (ByteArray.mk #[(97 : UInt8)]), Value.string (ByteArray.mk #[(98 : UInt8)]), Value.string (ByteArray.mk #[(99 : UInt8)]), Value.string
 (ByteArray.mk #[(100 : UInt8)])] (9 : Nat) → ∃ (I : Int → World → Prop), ∃ (μ : Int → World → Nat), I (0 : Int) w'_1 ∧ ∀ (x_13 : Int) (w : World), I x_13 w → bif Decidable.decide (x_13 < (↑(4
 : Nat) : Int)) then ∃ (ad : Addr), Option.some (Addr.mk g (0 : Nat) Option.none) = Option.some ad ∧ ((0 : Int) ≤ x_13 ∧ x_13 < (↑(4 : Nat) : Int)) ∧ ∃ (x_14 : ByteArray), World.cell? w
 (Addr.add ad (Int.toNat x_13 * (1 : Nat))) = Option.some (Value.string x_14) ∧ CallsV Try.prog (28 : Nat) #[Value.pointer x, Value.int IntKind.i64 (1 : Int),
 Value.string x_14, Value.string x_14] w fun (v : Value) (w' : World) => ∃ (x : Bool), v = Value.bool x ∧ bif !x then K (Value.bool Bool.false) w' else I (IntKind.wrap
 IntKind.i64 (x_13 + (1 : Int))) w' ∧ μ (IntKind.wrap IntKind.i64 (x_13 + (1 : Int))) w' < μ x_13 w else CallsV Try.prog (30 : Nat) #[Value.string (ByteArray.mk #[(101 :
 UInt8)])] w fun (v : Value) (w' : World) => ∃ (x_14 : Option Addr), ∃ (x_15 : Nat), ∃ (x_16 : Nat), v = Value.slice x_14 x_15 x_16 ∧ CallsV Try.prog (29 : Nat)
 #[Value.pointer x, Value.int IntKind.i64 (1 : Int), Value.slice x_14 x_15 x_16, Value.slice Option.none (0 : Nat) (0 : Nat)] w' fun (v : Value) (w' : World) => ∃ (x_17 : Bool), ∃
 (x_18 : Int), v = Value.tuple #[Value.bool x_17, Value.int IntKind.i64 x_18] ∧ CallsV Try.prog (31 : Nat) #[Value.pointer x, Value.int IntKind.i64 (1 : Int)] w' fun
 (v : Value) (w' : World) => ∃ (x_19 : Int), v = Value.int IntKind.i64 x_19 ∧ CallsV Try.prog (26 : Nat) #[Value.pointer x] w' fun (v : Value) (w' : World) => ∃ (x :
 Int), ∃ (x_20 : Int), v = Value.tuple #[Value.int IntKind.i64 x, Value.int IntKind.i64 x_20] ∧ bif !Decidable.decide (x_8 = (5 : Int)) then K (Value.bool Bool.false) w' else K
 (Value.bool Bool.false) w' else ∀ (g : Nat) (w'_1 : World), Fresh w' g w'_1 [Value.string (ByteArray.mk #[(97 : UInt8)]), Value.string (ByteArray.mk #[(98 : UInt8)]), Value.string
 (ByteArray.mk #[(99 : UInt8)]), Value.string (ByteArray.mk #[(100 : UInt8)])] (9 : Nat) → ∃ (I : Int → World → Prop), ∃ (μ : Int → World → Nat), I (0 : Int) w'_1 ∧ ∀ (x_12 : Int) (w :
 World), I x_12 w → bif Decidable.decide (x_12 < (↑(4 : Nat) : Int)) then ∃ (ad : Addr), Option.some (Addr.mk g (0 : Nat) Option.none) = Option.some ad ∧ ((0 : Int) ≤ x_12 ∧ x_12 < (↑(4 : Nat)
 : Int)) ∧ ∃ (x_13 : ByteArray), World.cell? w (Addr.add ad (Int.toNat x_12 * (1 : Nat))) = Option.some (Value.string x_13) ∧ CallsV Try.prog (28 : Nat) #[Value.pointer x,
 Value.int IntKind.i64 (1 : Int), Value.string x_13, Value.string x_13] w fun (v : Value) (w' : World) => ∃ (x : Bool), v = Value.bool x ∧ bif !x then K (Value.bool Bool.false)
 w' else I (IntKind.wrap IntKind.i64 (x_12 + (1 : Int))) w' ∧ μ (IntKind.wrap IntKind.i64 (x_12 + (1 : Int))) w' < μ x_12 w else CallsV Try.prog (30 : Nat) #[Value.string
 (ByteArray.mk #[(101 : UInt8)])] w fun (v : Value) (w' : World) => ∃ (x_13 : Option Addr), ∃ (x_14 : Nat), ∃ (x_15 : Nat), v = Value.slice x_13 x_14 x_15 ∧ CallsV Try.prog
 (29 : Nat) #[Value.pointer x, Value.int IntKind.i64 (1 : Int), Value.slice x_13 x_14 x_15, Value.slice Option.none (0 : Nat) (0 : Nat)] w' fun (v : Value) (w' : World) => ∃ (x_16 :
 Bool), ∃ (x_17 : Int), v = Value.tuple #[Value.bool x_16, Value.int IntKind.i64 x_17] ∧ CallsV Try.prog (31 : Nat) #[Value.pointer x, Value.int IntKind.i64 (1 :
 Int)] w' fun (v : Value) (w' : World) => ∃ (x_18 : Int), v = Value.int IntKind.i64 x_18 ∧ CallsV Try.prog (26 : Nat) #[Value.pointer x] w' fun (v : Value) (w' :
 World) => ∃ (x : Int), ∃ (x_19 : Int), v = Value.tuple #[Value.int IntKind.i64 x, Value.int IntKind.i64 x_19] ∧ bif !Decidable.decide (x_8 = (5 : Int)) then K (Value.bool
 Bool.false) w' else K (Value.bool Bool.false) w' else ∀ (g : Nat) (w'_1 : World), Fresh w' g w'_1 [Value.string (ByteArray.mk #[(97 : UInt8)]), Value.string (ByteArray.mk #[(98 :
 UInt8)]), Value.string (ByteArray.mk #[(99 : UInt8)]), Value.string (ByteArray.mk #[(100 : UInt8)])] (9 : Nat) → ∃ (I : Int → World → Prop), ∃ (μ : Int → World → Nat), I (0 : Int) w'_1 ∧ ∀
 (x_11 : Int) (w : World), I x_11 w → bif Decidable.decide (x_11 < (↑(4 : Nat) : Int)) then ∃ (ad : Addr), Option.some (Addr.mk g (0 : Nat) Option.none) = Option.some ad ∧ ((0 : Int) ≤ x_11 ∧
 x_11 < (↑(4 : Nat) : Int)) ∧ ∃ (x_12 : ByteArray), World.cell? w (Addr.add ad (Int.toNat x_11 * (1 : Nat))) = Option.some (Value.string x_12) ∧ CallsV Try.prog (28 : Nat)
 #[Value.pointer x, Value.int IntKind.i64 (1 : Int), Value.string x_12, Value.string x_12] w fun (v : Value) (w' : World) => ∃ (x : Bool), v = Value.bool x ∧ bif !x then K
 (Value.bool Bool.false) w' else I (IntKind.wrap IntKind.i64 (x_11 + (1 : Int))) w' ∧ μ (IntKind.wrap IntKind.i64 (x_11 + (1 : Int))) w' < μ x_11 w else CallsV Try.prog
 (30 : Nat) #[Value.string (ByteArray.mk #[(101 : UInt8)])] w fun (v : Value) (w' : World) => ∃ (x_12 : Option Addr), ∃ (x_13 : Nat), ∃ (x_14 : Nat), v = Value.slice x_12 x_13 x_14 ∧
 CallsV Try.prog (29 : Nat) #[Value.pointer x, Value.int IntKind.i64 (1 : Int), Value.slice x_12 x_13 x_14, Value.slice Option.none (0 : Nat) (0 : Nat)] w' fun (v :
 Value) (w' : World) => ∃ (x_15 : Bool), ∃ (x_16 : Int), v = Value.tuple #[Value.bool x_15, Value.int IntKind.i64 x_16] ∧ CallsV Try.prog (31 : Nat) #[Value.pointer
 x, Value.int IntKind.i64 (1 : Int)] w' fun (v : Value) (w' : World) => ∃ (x_17 : Int), v = Value.int IntKind.i64 x_17 ∧ CallsV Try.prog (26 : Nat) #[Value.pointer
 x] w' fun (v : Value) (w' : World) => ∃ (x : Int), ∃ (x_18 : Int), v = Value.tuple #[Value.int IntKind.i64 x, Value.int IntKind.i64 x_18] ∧ bif !Decidable.decide (x_8 = (5 : Int))
 then K (Value.bool Bool.false) w' else K (Value.bool Bool.false) w' else ∀ (g : Nat) (w'_1 : World), Fresh w' g w'_1 [Value.string (ByteArray.mk #[(97 : UInt8)]), Value.string
 (ByteArray.mk #[(98 : UInt8)]), Value.string (ByteArray.mk #[(99 : UInt8)]), Value.string (ByteArray.mk #[(100 : UInt8)])] (9 : Nat) → ∃ (I : Int → World → Prop), ∃ (μ : Int → World → Nat),
 I (0 : Int) w'_1 ∧ ∀ (x_10 : Int) (w : World), I x_10 w → bif Decidable.decide (x_10 < (↑(4 : Nat) : Int)) then ∃ (ad : Addr), Option.some (Addr.mk g (0 : Nat) Option.none) = Option.some ad ∧
 ((0 : Int) ≤ x_10 ∧ x_10 < (↑(4 : Nat) : Int)) ∧ ∃ (x_11 : ByteArray), World.cell? w (Addr.add ad (Int.toNat x_10 * (1 : Nat))) = Option.some (Value.string x_11) ∧ CallsV
 Try.prog (28 : Nat) #[Value.pointer x, Value.int IntKind.i64 (1 : Int), Value.string x_11, Value.string x_11] w fun (v : Value) (w' : World) => ∃ (x : Bool), v =
 Value.bool x ∧ bif !x then K (Value.bool Bool.false) w' else I (IntKind.wrap IntKind.i64 (x_10 + (1 : Int))) w' ∧ μ (IntKind.wrap IntKind.i64 (x_10 + (1 : Int))) w' < μ x_10 w else
 CallsV Try.prog (30 : Nat) #[Value.string (ByteArray.mk #[(101 : UInt8)])] w fun (v : Value) (w' : World) => ∃ (x_11 : Option Addr), ∃ (x_12 : Nat), ∃ (x_13 : Nat), v =
 Value.slice x_11 x_12 x_13 ∧ CallsV Try.prog (29 : Nat) #[Value.pointer x, Value.int IntKind.i64 (1 : Int), Value.slice x_11 x_12 x_13, Value.slice Option.none (0 :
 Nat) (0 : Nat)] w' fun (v : Value) (w' : World) => ∃ (x_14 : Bool), ∃ (x_15 : Int), v = Value.tuple #[Value.bool x_14, Value.int IntKind.i64 x_15] ∧ CallsV Try.prog
 (31 : Nat) #[Value.pointer x, Value.int IntKind.i64 (1 : Int)] w' fun (v : Value) (w' : World) => ∃ (x_16 : Int), v = Value.int IntKind.i64 x_16 ∧ CallsV Try.prog
 (26 : Nat) #[Value.pointer x] w' fun (v : Value) (w' : World) => ∃ (x : Int), ∃ (x_17 : Int), v = Value.tuple #[Value.int IntKind.i64 x, Value.int IntKind.i64 x_17] ∧ bif
 !Decidable.decide (x_8 = (5 : Int)) then K (Value.bool Bool.false) w' else K (Value.bool Bool.false) w'
theorem cardindexlaw05_UndoNumbers.eq  (w : World) (K : Value → World → Prop) : cardindexlaw05_UndoNumbers.W  w K = fnW Try.prog Try.f6 (.named (.seq .auto (.seq .auto (.seq .auto (.seq .auto (.seq .auto (.seq .auto (.seq (.seq .auto (.block (.loop [(9, .one (.int .i64))] .auto))) (.seq .auto (.seq .auto (.seq (.seq .auto (.block (.loop [(92, .one (.int .i64))] .auto))) .auto))))))))))) [] w K := by kernel_rfl
theorem cardindexlaw05_UndoNumbers.calls (ok : Okay Try.prog)  {w : World} {K : Value → World → Prop} (h : cardindexlaw05_UndoNumbers.W  w K) : CallsV Try.prog 6 #[] w K :=
  fnW_calls ok Try.func6 (an := (.named (.seq .auto (.seq .auto (.seq .auto (.seq .auto (.seq .auto (.seq .auto (.seq (.seq .auto (.block (.loop [(9, .one (.int .i64))] .auto))) (.seq .auto (.seq .auto (.seq (.seq .auto (.block (.loop [(92, .one (.int .i64))] .auto))) .auto)))))))))))) (args := []) (by rw [← cardindexlaw05_UndoNumbers.eq]; exact h)
end Go.Proofs.Ythfagbfllheneaa
/- Layer 5: UndoNumbers. -/
set_option linter.unusedVariables false
set_option linter.unusedSimpArgs false
namespace Go.Proofs.Ythfagbfllheneaa
open Go Go.Sx T4
theorem one_deep5 {A : Ar} {d : Tr} (h : Inv A [d]) (hm : A.most = 1) : d.h = 1 ∧ A.nodes = 1 := by
  have h1 := (Inv.at_ (D1 := []) (D2 := []) h).tree.height
  have h2 := h.acc.nodes
  have h3 := h.nodes
  simp at h2
  omega
section
variable {T : Nat → Prop} {u : World} {s : Nat} {A : Ar} {d : Tr} {ms : List (Ar × List Tr)}
/-- an entry in the one leaf that there may be -/
theorem lPut (h : Sto T u s ⟨A, [d], ms⟩) (hf : A.fan = 4) (hm : A.most = 1) {id : Int} (hr : d.r = id) {full : Bool} {key val : Key} (hfull : full = (!inE key d.es && decide (4 ≤ d.es.length))) (hk : key.length ≤ 1048576) (hv : val.length ≤ 1048576) {Ω1 Ω2 : Nat → Prop} {KA VA : Option Addr} (iK : Imm KB Ω1 u KA key) (iV : Imm KB Ω2 u VA val) (kc vc : Nat) :
    CallsV Try.prog 29 #[.pointer (some ⟨s, 0, none⟩), .int .i64 id, .slice KA key.length kc, .slice VA val.length vc] u fun r u' => r = .tuple #[.bool (!full && inE key d.es), .int .i64 (if full then 5 else 0)] ∧ ∃ A' d' T', Sto T' u' s ⟨A', [d'], ms⟩ ∧ Tch T u T' u' ∧ Same A A' ∧ d'.r = id ∧ (full = false → d'.es = insE key val d.es) := by
  obtain ⟨g, R, M, IA, ic, X, xc, L, h⟩ := h
  have hI : Inv A [d] := h.inv
  obtain ⟨hh, hn⟩ := one_deep5 hI hm
  obtain ⟨A', d', full', hfe, hr', hI', hs', hfu, hno, hP⟩ := dPut0 (D1 := []) (D2 := []) hI hk hv
  rw [putFull_leaf (D1 := []) (D2 := []) hI _ hh, hf, hm, hn] at hfe
  obtain rfl : full = full' := by
    rw [hfull, hfe]; congr 1; rw [decide_eq_decide]; omega
  have hids : idsD [d'] = idsD [d] := by simp [idsD, hr']
  refine undo_Store_Put.calls okay ?_
  unfold undo_Store_Put.W
  rw [hr] at hP
  refine (of_spec h).same ⟨_, rfl, (hP h.ar iK iV kc vc).mono ?_⟩
  rintro _ u' ⟨rfl, R', M', h', c⟩
  obtain ⟨T', h2, c2⟩ := h.chg h' c hI' hs'.fan hs'.most
  exact ⟨_, _, rfl, rfl, A', d', T', ⟨g, R', M', IA, ic, X, xc, L, by rw [show idsD (⟨A', [d'], ms⟩ : Ab).D = idsD [d] from hids]; exact h2⟩, c2, hs', hr'.trans hr, hno⟩
theorem lPuts (h : Sto T u s ⟨A, [d], ms⟩) (hf : A.fan = 4) (hm : A.most = 1) {id : Int} (hr : d.r = id) {key val : Key} (hfull : (!inE key d.es && decide (4 ≤ d.es.length)) = false) (hk : key.length ≤ 1048576) (hv : val.length ≤ 1048576) :
    CallsV Try.prog 28 #[.pointer (some ⟨s, 0, none⟩), .int .i64 id, .string ⟨key.toArray⟩, .string ⟨val.toArray⟩] u fun r u' => r = .bool true ∧ ∃ A' d' T', Sto T' u' s ⟨A', [d'], ms⟩ ∧ Tch T u T' u' ∧ Same A A' ∧ d'.r = id ∧ d'.es = insE key val d.es := by
  refine cardindexlaw05_puts.calls okay ?_
  unfold cardindexlaw05_puts.W
  refine (b_spec u key hk).mono ?_
  rintro _ u1 ⟨KA, kc, rfl, o1, e1, _⟩
  refine ⟨_, _, _, rfl, (b_spec u1 val hv).mono ?_⟩
  rintro _ u2 ⟨VA, vc, rfl, o2, e2, _⟩
  have e12 := e1.trans' e2
  refine ⟨_, _, _, rfl, (lPut (h.ext e12) hf hm hr hfull.symm hk hv (o1.ext e2).imm0 o2.imm0 kc vc).mono ?_⟩
  rintro _ u3 ⟨rfl, A', d', T', h', c, hs, hr', hF⟩
  exact ⟨_, _, rfl, rfl, A', d', T', h', (Tch.ext e12).trans c, hs, hr', hF rfl⟩
end
theorem one_of {D : List Tr} {n : Int} {es : Es} (h : foD D = [(n, es)]) : ∃ d, D = [d] ∧ d.r = n ∧ d.es = es := by
  cases D with
  | nil => cases h
  | cons d r =>
    cases r with
    | nil => simp [foD, fo] at h; exact ⟨d, rfl, h.1, h.2⟩
    | cons a r => simp [foD] at h
def lq5 : Nat → Key
  | 0 => [97]
  | 1 => [98]
  | 2 => [99]
  | _ => [100]
def esq5 : Nat → Es
  | 0 => []
  | j + 1 => insE (lq5 j) (lq5 j) (esq5 j)
set_option maxRecDepth 100000 in
set_option maxHeartbeats 2000000 in
theorem UndoNumbers_spec {w : World} : CallsV Try.prog 6 #[] w fun r w' => r = .bool true ∧ Ext w w' := by
  refine cardindexlaw05_UndoNumbers.calls okay ?_
  unfold cardindexlaw05_UndoNumbers.W
  refine (aNew_bad w 3 1 (by decide)).same ⟨_, _, rfl, (aNew_bad w 4 0 (by decide)).same ⟨_, _, rfl, (aNew w 4 1 (by decide) (by decide) (by decide) (by decide)).mono ?_⟩⟩
  rintro _ u0 ⟨s, T0, rfl, h0, e0, n0⟩
  refine ⟨_, _, rfl, (kCreate h0 (by decide) (by decide) (by decide)).mono ?_⟩
  rintro _ u1 ⟨rfl, A1, D1, T1, h1, c1, f1, m1, l1, F1⟩
  obtain ⟨e1, n1⟩ := c1.keepExt e0 n0
  replace l1 : A1.last = 1 := l1
  replace f1 : A1.fan = 4 := f1
  replace m1 : A1.most = 1 := m1
  obtain ⟨d1, rfl, hd1, hes1⟩ : ∃ d1, D1 = [d1] ∧ d1.r = 1 ∧ d1.es = [] := one_of F1
  clear F1 c1 h0 e0 n0
  refine ⟨_, _, rfl, brn (fun h => absurd rfl h) fun _ => brn (fun h => absurd rfl h) fun _ => brn (fun h => absurd rfl h) fun _ => brn (fun h => absurd rfl h) fun _ => ⟨fun x v => ∃ j : Nat, x = (j : Int) + 1 ∧ j ≤ 100 ∧ ∃ T, Sto T v s ⟨A1, [d1], List.replicate j (A1, [d1])⟩ ∧ Ext w v ∧ ∀ k, T k → w.heap.size ≤ k, fun x _ => (101 - x).toNat, ⟨0, rfl, by omega, T1, h1, e1, n1⟩, ?_⟩⟩
  clear h1 e1 n1
  rintro _ v ⟨j, rfl, hj, T, h, e, n⟩
  refine brd (fun hlt => (marks_spec h (by rw [List.length_replicate]; omega) _ (by rw [List.length_replicate])).mono ?_) (fun hge => ?_)
  · rintro _ v1 ⟨rfl, T1, h1, c1⟩
    obtain ⟨e1, n1⟩ := c1.keepExt e n
    rw [← List.replicate_succ'] at h1
    refine ⟨_, rfl, brnb (fun h => by cases h) fun _ => ?_⟩
    rw [wi _ (by omega) (by omega)]
    exact ⟨⟨j + 1, by omega, by omega, T1, h1, e1, n1⟩, by dsimp only; omega⟩
  obtain rfl : j = 100 := by omega
  have ml : (List.replicate 100 (A1, [d1])).length = 100 := List.length_replicate ..
  obtain ⟨ms, hms⟩ : ∃ ms, ms = List.replicate 100 (A1, [d1]) := ⟨_, rfl⟩
  have ml : ms.length = 100 := by rw [hms]; exact ml
  have mg : ms[49]? = some (A1, [d1]) := by rw [hms, List.getElem?_replicate]; rfl
  rw [← hms] at h
  clear hms hj hge
  refine (aMark h).mono ?_
  rintro _ v1 (⟨_, rfl, e1⟩ | ⟨hlt, _⟩)
  rotate_left
  · exact absurd (show ms.length < 100 from hlt) (by omega)
  have h := h.ext e1
  have e := e.trans' e1
  have bad : ∀ {n : Int} {r : Value} {u' : World} {P : Prop}, ((n < 1 ∨ (ms.length : Int) < n) ∧ r = .int .i64 60 ∧ u' = v1) ∨ (1 ≤ n ∧ n ≤ (ms.length : Int) ∧ P) → (n < 1 ∨ 100 < n) → r = .int .i64 60 ∧ u' = v1 := fun h hn => h.elim (fun h => h.2) fun h => by omega
  refine ⟨_, _, rfl, (aBack h 0).mono ?_⟩
  intro r u' hb
  obtain ⟨rfl, rfl⟩ := bad hb (by decide)
  refine ⟨_, rfl, brd (fun _ => (aBack h 101).mono ?_) fun h => absurd rfl h⟩
  intro r u' hb
  obtain ⟨rfl, rfl⟩ := bad hb (by decide)
  refine ⟨_, rfl, brd (fun _ => (aFree h 0).mono ?_) fun h => absurd rfl h⟩
  intro r u' hb
  obtain ⟨rfl, rfl⟩ := bad hb (by decide)
  refine ⟨_, rfl, brd (fun _ => (aFree h (-1)).mono ?_) fun h => absurd rfl h⟩
  intro r u' hb
  obtain ⟨rfl, rfl⟩ := bad hb (by decide)
  refine ⟨_, rfl, brd (fun _ => (aFree h 101).mono ?_) fun h => absurd rfl h⟩
  intro r u' hb
  obtain ⟨rfl, rfl⟩ := bad hb (by decide)
  refine ⟨_, rfl, ?_⟩
  intro gs v2 f2
  have hgs : ¬ T gs := fun ht => by have := h.lt gs ht; have := f2.ge; omega
  refine ⟨fun x u => ∃ j : Nat, j ≤ 4 ∧ x = (j : Int) ∧ ∃ A d T, Sto T u s ⟨A, [d], ms⟩ ∧ Ext w u ∧ (∀ k, T k → w.heap.size ≤ k) ∧ A.fan = 4 ∧ A.most = 1 ∧ A.last = 1 ∧ d.r = 1 ∧ d.es = esq5 j ∧ Blk u gs [.string ⟨#[97]⟩, .string ⟨#[98]⟩, .string ⟨#[99]⟩, .string ⟨#[100]⟩] ∧ ¬ T gs, fun x _ => (4 - x).toNat, ⟨0, by omega, rfl, A1, d1, T, h.ext f2.ext, e.trans' f2.ext, n, f1, m1, l1, hd1, hes1, f2.blk, hgs⟩, ?_⟩
  clear h e n hgs f2
  rintro _ u ⟨j, hj, rfl, A, d, T, h, e, n, hf, hm, hl, hdr, hde, hb, hg⟩
  refine brd (fun hlt => ?_) (fun hge => ?_)
  · have hj4 : j = 0 ∨ j = 1 ∨ j = 2 ∨ j = 3 := by omega
    have hc : u.cell? ⟨gs, j, none⟩ = some (.string ⟨(lq5 j).toArray⟩) := by
      rcases hj4 with rfl | rfl | rfl | rfl <;> exact hb.cell0 rfl
    have hkl : (lq5 j).length ≤ 1048576 := by
      rcases hj4 with rfl | rfl | rfl | rfl <;> decide
    have hfull : (!inE (lq5 j) d.es && decide (4 ≤ d.es.length)) = false := by
      rw [hde]
      rcases hj4 with rfl | rfl | rfl | rfl <;> decide
    refine ⟨_, rfl, ⟨by omega, by omega⟩, _, by rw [Int.toNat_natCast, add_new, Nat.zero_add, Nat.mul_one]; exact hc, (lPuts h hf hm hdr hfull hkl hkl).mono ?_⟩
    rintro _ u1 ⟨rfl, A', d', T', h', c, hs, hr', hes'⟩
    obtain ⟨e', n'⟩ := c.keepExt e n
    obtain ⟨hb', hg'⟩ := c.blk hb hg
    rw [wi _ (by omega) (by omega)]
    exact ⟨_, rfl, brnb (fun h => by cases h) fun _ => ⟨⟨j + 1, by omega, by omega, A', d', T', h', e', n', hs.fan.trans hf, hs.most.trans hm, hs.last.trans hl, hr', by rw [hes', hde]; rfl, hb', hg'⟩, by dsimp only; omega⟩⟩
  obtain rfl : j = 4 := by omega
  clear hb hg hge hj
  refine (b_spec u [101] (by decide)).mono ?_
  rintro _ u1 ⟨KA, kc, rfl, o1, e1, _⟩
  refine ⟨_, _, _, rfl, (lPut (h.ext e1) hf hm hdr (full := true) (key := [101]) (val := []) (by rw [hde]; decide) (by decide) (by decide) o1.imm0 (Imm.nil KB NoB u1 none) kc 0).mono ?_⟩
  rintro _ u2 ⟨rfl, A2, d2, T2, h2, c2, hs2, hr2, _⟩
  obtain ⟨e2, n2⟩ := ((Tch.ext e1).trans c2).keepExt e n
  obtain ⟨A3, D3, x3, rel3, hP3⟩ := aDrop (A := A2) (D := [d2]) h2.inv 1
  refine ⟨_, _, rfl, (hP3 h2).mono ?_⟩
  rintro _ u3 ⟨rfl, T3, h3, c3⟩
  obtain ⟨e3, n3⟩ := c3.keepExt e2 n2
  have hg2 : gF (foD [d2]) 1 = some d2.es := by
    have : foD [d2] = [(1, d2.es)] := by simp [foD, fo, hr2]
    rw [this]; rfl
  obtain ⟨rfl, rfl⟩ : D3 = [] ∧ x3 = 0 := by
    rcases rel3.rel with ⟨h1, _⟩ | ⟨E1, d', E2, hE, _, h4, h5⟩
    · rw [hg2] at h1; cases h1
    · have : E1 = [] ∧ E2 = [] := by
        match E1, hE with
        | [], hE => simp at hE; exact ⟨rfl, hE.2⟩
        | a :: r, hE => simp at hE
      obtain ⟨rfl, rfl⟩ := this
      exact ⟨h4, h5⟩
  have l3 : A3.last = 1 := rel3.same.last.trans (hs2.last.trans hl)
  have m3 : A3.most = 1 := rel3.same.most.trans (hs2.most.trans hm)
  have f3 : A3.fan = 4 := rel3.same.fan.trans (hs2.fan.trans hf)
  refine ⟨_, rfl, (kCreate h3 (by rw [l3]; decide) (by rw [m3]; decide) (by decide)).mono ?_⟩
  rintro _ u4 ⟨rfl, A4, D4, T4, h4, c4, f4, m4, l4, F4⟩
  obtain ⟨e4, n4⟩ := c4.keepExt e3 n3
  obtain ⟨d4, rfl, hd4, hes4⟩ : ∃ d1, D4 = [d1] ∧ d1.r = 2 ∧ d1.es = [] := one_of (by rw [l3] at F4; exact F4)
  rw [l3]
  refine ⟨_, _, rfl, brn (fun h => absurd rfl h) fun _ => brn (fun h => absurd rfl h) fun _ => brn (fun h => absurd rfl h) fun _ => brn (fun h => absurd rfl h) fun _ => brn (fun h => absurd rfl h) fun _ => brn (fun h => absurd rfl h) fun _ => (lPuts h4 (f4.trans f3) (m4.trans m3) hd4 (key := [120]) (val := [121]) (by rw [hes4]; decide) (by decide) (by decide)).mono ?_⟩
  rintro _ u5 ⟨rfl, A5, d5, T5, h5, c5, _, _, _⟩
  obtain ⟨e5, n5⟩ := c5.keepExt e4 n4
  refine ⟨_, rfl, brnb (fun h => by cases h) fun _ => (aBack h5 50).mono ?_⟩
  rintro _ u6 (⟨hb, _⟩ | ⟨_, _, rfl, B, D', T6, hm6, h6, c6⟩)
  · exact absurd hb (by show ¬ ((50 : Int) < 1 ∨ ((ms.length : Nat) : Int) < 50); omega)
  replace hm6 : ms[49]? = some (B, D') := hm6
  rw [mg] at hm6
  obtain ⟨rfl, rfl⟩ : A1 = B ∧ [d1] = D' := by have := Option.some.inj hm6; exact ⟨(Prod.mk.inj this).1, (Prod.mk.inj this).2⟩
  replace h6 : Sto T6 u6 s ⟨A1, [d1], ms.take 49⟩ := h6
  obtain ⟨e6, n6⟩ := c6.keepExt e5 n5
  refine ⟨_, rfl, (b_spec u6 [122] (by decide)).mono ?_⟩
  rintro _ u7 ⟨VA, vc, rfl, o7, e7, _⟩
  refine ⟨_, _, _, rfl, (lPut (h6.ext e7) f1 m1 hd1 (full := false) (key := []) (val := [122]) (by rw [hes1]; decide) (by decide) (by decide) (Imm.nil KB NoB u7 none) o7.imm0 0 vc).mono ?_⟩
  rintro _ u8 ⟨rfl, A8, d8, T8, h8, c8, hs8, hr8, hes8⟩
  obtain ⟨e8, n8⟩ := ((Tch.ext e7).trans c8).keepExt e6 n6
  have ml8 : (ms.take 49).length = 49 := by rw [List.length_take, ml]; rfl
  refine ⟨_, _, rfl, brd (fun _ => (sMarks h8).same ⟨_, rfl, brd (fun _ => (sTrees h8).mono ?_) fun h => absurd (by show (((ms.take 49).length : Nat) : Int) = 49; rw [ml8]; rfl) h⟩) fun h => absurd rfl h⟩
  rintro _ u9 ⟨IA, ic, rfl, o9, e9, _⟩
  have hids : idsD (⟨A8, [d8], ms.take 49⟩ : Ab).D = [1] := by simp [idsD, hr8]
  rw [hids] at o9
  rw [hids]
  refine ⟨_, _, _, rfl, ?_⟩
  intro gx v9 f9
  refine (SameInts_spec (l := [1]) (m := [1]) (d := 1) ((o9.imm KI_pos).ext KI_pos f9.ext) (f9.imm (Ω := NoB) (fun h => h) KI_pos rfl (by simp [maxLen]) (fun i a ha => by cases i with | zero => simp at ha; subst ha; rfl | succ i => simp at ha)) (by decide)).mono ?_
  rintro _ v10 ⟨rfl, e10⟩
  have h10 := ((h8.ext e9).ext f9.ext).ext e10
  have x10 := ((e8.trans' e9).trans' f9.ext).trans' e10
  refine ⟨_, rfl, br (fun _ => brnb (fun _ => brd (fun _ => (aFree h10 1).mono ?_) fun h => absurd rfl h) fun h => absurd h (by rw [hes1]; decide)) fun h => absurd h (by decide)⟩
  rintro _ v11 (⟨hb, _⟩ | ⟨_, _, rfl, T11, h11, c11⟩)
  · exact absurd hb (by show ¬ ((1 : Int) < 1 ∨ (((ms.take 49).length : Nat) : Int) < 1); omega)
  replace h11 : Sto T11 v11 s ⟨A8, [d8], []⟩ := h11
  obtain ⟨e11, n11⟩ := c11.keepExt x10 n8
  refine ⟨_, rfl, brd (fun _ => (sMarks h11).same ⟨_, rfl, brd (fun _ => (sLen h11 1).mono ?_) fun h => absurd rfl h⟩) fun h => absurd rfl h⟩
  rintro _ v12 ⟨rfl, e12⟩
  refine ⟨_, rfl, brd (fun _ => (sCheck (h11.ext e12)).mono ?_) fun h => absurd ?_ h⟩
  · rintro _ v13 ⟨rfl, e13⟩
    refine ⟨_, rfl, brd (fun _ => (awake_spec _).mono ?_) fun h => absurd rfl h⟩
    rintro _ v14 ⟨rfl, e14⟩
    exact ⟨_, rfl, rfl, ((e11.trans' e12).trans' e13).trans' e14⟩
  · have : foD [d8] = [(1, [([], [122])])] := by simp [foD, fo, hr8, hes8 rfl, hes1, insE]
    show ((lenO (gF (foD [d8]) 1) : Nat) : Int) = 1
    rw [this]; rfl
end Go.Proofs.Ythfagbfllheneaa
