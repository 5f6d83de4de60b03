/- Small words for proofs over nests. -/
import Derived.Test.YtakmlaliglmnmaaSxRun
set_option linter.unusedVariables false
set_option linter.unusedSimpArgs false
namespace Go.Sx
theorem br {b : Bool} {A B : Prop} (h1 : b = true → A) (h2 : b = false → B) : cond b A B := by cases b with | true => exact h1 rfl | false => exact h2 rfl
theorem brd {p : Prop} [Decidable p] {A B : Prop} (h1 : p → A) (h2 : ¬ p → B) : cond (decide p) A B := br (fun h => h1 (of_decide_eq_true h)) (fun h => h2 (of_decide_eq_false h))
theorem brn {p : Prop} [Decidable p] {A B : Prop} (h1 : ¬ p → A) (h2 : p → B) : cond (!decide p) A B := by
  by_cases h : p <;> simp only [h, decide_true, decide_false, Bool.not_true, Bool.not_false, cond_true, cond_false]
  · exact h2 h
  · exact h1 h
theorem wi (x : Int) (h1 : -9223372036854775808 ≤ x) (h2 : x ≤ 9223372036854775807) : IntKind.i64.wrap x = x := by rw [IntKind.wrap_i64]; omega
theorem w8 (x : Int) (h1 : 0 ≤ x) (h2 : x < 256) : IntKind.u8.wrap x = x := by rw [IntKind.wrap_u8]; omega
theorem wu (x : Int) (h1 : 0 ≤ x) (h2 : x < 18446744073709551616) : IntKind.u64.wrap x = x := by
  have e : IntKind.u64.wrap x = x % 18446744073709551616 := by simp [IntKind.wrap, IntKind.signed, IntKind.bits]
  rw [e]; omega
theorem wu_mod (x : Int) : IntKind.u64.wrap x = x % 18446744073709551616 := by simp [IntKind.wrap, IntKind.signed, IntKind.bits]
theorem CallsV.same {P : Program} {f : FuncId} {args : Array Value} {w : World} {u : Value} {K : Value → World → Prop} (h : CallsV P f args w fun v w' => v = u ∧ w' = w) (hk : K u w) : CallsV P f args w K :=
  h.mono fun v w' ⟨h1, h2⟩ => by subst h1; subst h2; exact hk
/-- one slice grew into another -/
structure Grew (A A' : Option Addr) (w w' : World) : Prop where
  fr : Fr (ownB A) w w'
  sub : ∀ k, ownB A' k → ownB A k ∨ w.heap.size ≤ k
theorem Grew.refl (A : Option Addr) (w : World) : Grew A A w w := ⟨.refl _ _, fun _ h => .inl h⟩
theorem Grew.trans {A B C : Option Addr} {a b c : World} (h : Grew A B a b) (h' : Grew B C b c) : Grew A C a c :=
  ⟨h.fr.trans h'.fr (fun _ _ h => h) (fun k hk hb => (h.sub k hb).elim id (fun h => absurd hk (by omega))), fun k hk => (h'.sub k hk).elim (fun h1 => h.sub k h1) (fun h1 => .inr (Nat.le_trans h.fr.size h1))⟩
/-- owned bytes -/
def OwnB (w : World) (A : Option Addr) (c : Nat) (l : List UInt8) : Prop := Own w 1 A l.length c (l.map u8)
theorem OwnB.nil (w : World) : OwnB w none 0 [] := Own.nil w 1
theorem OwnB.keep {w w' : World} {S : Nat → Prop} {A : Option Addr} {c : Nat} {l : List UInt8} (h : OwnB w A c l) (hf : Fr S w w') (hn : ∀ k, ownB A k → ¬ S k) : OwnB w' A c l := Own.keep h hf hn
theorem OwnB.imm {w : World} {A : Option Addr} {c : Nat} {l : List UInt8} (h : OwnB w A c l) {Ω : Nat → Prop} (hΩ : ∀ k, ownB A k → ¬ Ω k) : Imm KB Ω w A l :=
  Own.imm (K := KB) KB_pos h hΩ fun i a ha => by
    show ((l.map u8).drop (i * 1)).take 1 = [u8 a]
    have hlt : i < l.length := (List.getElem?_eq_some_iff.1 ha).1
    have e : l[i] = a := (List.getElem?_eq_some_iff.1 ha).2
    rw [Nat.mul_one, List.drop_eq_getElem_cons (by simpa using hlt)]
    simp [e]
theorem u8_toNat (b : UInt8) : u8 b = .int .u8 (b.toNat : Int) := rfl
theorem toUInt8_int {n : Nat} (h : n < 256) : Value.int .u8 (n : Int) = u8 n.toUInt8 := by
  rw [u8_toNat]; congr 2; simp [Nat.toUInt8]; omega
end Go.Sx
