/- Layer 7, plain: rows of one key stay in their order. -/
import Derived.Test.YtakmlaliglmnmaaS2Pure
set_option linter.unusedVariables false
set_option linter.unusedSimpArgs false
namespace S1
open Go.Sx Go.Lib R1
/-- a row's number -/
def idx (x : One) : Int := (x.r.getD 2 V00).n
def Lex (a b : One) : Prop := compareBytes a.k b.k < 0 ∨ (a.k = b.k ∧ idx a < idx b)
theorem ins_lex (x : One) : ∀ (l : List One), (∀ z ∈ l, idx z < idx x) → l.Pairwise Lex → (ins x l).Pairwise Lex
  | [], _, _ => List.pairwise_singleton _ _
  | y :: l, hi, hp => by
    have hp' := List.pairwise_cons.1 hp
    rw [ins]
    split
    · rename_i hle
      refine List.pairwise_cons.2 ⟨fun z hz => ?_, ins_lex x l (fun z hz => hi z (List.mem_cons.2 (.inr hz))) hp'.2⟩
      rcases (ins_mem x l z).1 hz with rfl | hz
      · have h1 := hi y (List.mem_cons.2 (.inl rfl))
        by_cases h0 : compareBytes y.k z.k = 0
        · exact .inr ⟨cmp_zero.1 h0, h1⟩
        · exact .inl (by omega)
      · exact hp'.1 z hz
    · rename_i hgt
      have hxy : compareBytes x.k y.k < 0 := by rw [cmp_neg y.k x.k]; omega
      refine List.pairwise_cons.2 ⟨fun z hz => ?_, hp⟩
      rcases List.mem_cons.1 hz with rfl | hz
      · exact .inl hxy
      · left
        have hyz : compareBytes y.k z.k ≤ 0 := by
          rcases hp'.1 z hz with h | ⟨h, _⟩
          · omega
          · rw [h, cmp_self]; decide
        have h1 := cmp_trans x.k y.k z.k (by omega) hyz
        have h2 : compareBytes x.k z.k ≠ 0 := fun e => by
          have e2 := cmp_zero.1 e
          rw [← e2, cmp_neg x.k y.k] at hyz
          omega
        omega
theorem sortL_lex : ∀ (l acc : List One), (∀ a ∈ acc, ∀ b ∈ l, idx a < idx b) → l.Pairwise (fun a b => idx a < idx b) → acc.Pairwise Lex → (sortL acc l).Pairwise Lex
  | [], acc, _, _, h => h
  | x :: l, acc, hi, hl, h => by
    have hl' := List.pairwise_cons.1 hl
    refine sortL_lex l (ins x acc) (fun a ha b hb => ?_) hl'.2 (ins_lex x acc (fun z hz => hi z hz x (List.mem_cons.2 (.inl rfl))) h)
    rcases (ins_mem x acc a).1 ha with rfl | ha
    · exact hl'.1 b hb
    · exact hi a ha b (List.mem_cons.2 (.inr hb))
theorem onesFrom_idx (ds : List Bool) : ∀ (l : List (V × V)) (i : Nat), (onesFrom ds i l).Pairwise (fun a b => idx a < idx b)
  | [], _ => List.Pairwise.nil
  | p :: l, i => by
    refine List.pairwise_cons.2 ⟨fun b hb => ?_, onesFrom_idx ds l (i + 1)⟩
    obtain ⟨q, _, j, h1, _, _, rfl⟩ := onesFrom_mem hb
    show ((i : Nat) : Int) < ((j : Nat) : Int)
    omega
theorem order_lex (ds : List Bool) (l : List (V × V)) : (inOrder (onesFrom ds 0 l)).Pairwise Lex :=
  sortL_lex _ [] (fun a ha => by cases ha) (onesFrom_idx ds l 0) List.Pairwise.nil
end S1
