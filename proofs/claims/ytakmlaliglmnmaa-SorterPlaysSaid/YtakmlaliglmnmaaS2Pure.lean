/- Layer 7, plain: the statements' rows. -/
import Derived.Test.YtakmlaliglmnmaaS1Pure
set_option linter.unusedVariables false
set_option linter.unusedSimpArgs false
namespace S1
open Go.Sx Go.Lib R1
def numW (n : Int) : V := ⟨1, n, ByteArray.mk #[]⟩
def V00 : V := ⟨0, 0, ByteArray.empty⟩
def P00 : V × V := (V00, V00)
def O00 : One := ⟨[], []⟩
/-- the i-th row of keys: its key and its number behind it -/
def oneP (ds : List Bool) (p : V × V) (i : Nat) : One := ⟨key [p.1, p.2] ds, [p.1, p.2, numW (i : Int)]⟩
def onesFrom (ds : List Bool) : Nat → List (V × V) → List One
  | _, [] => []
  | i, p :: l => oneP ds p i :: onesFrom ds (i + 1) l
theorem onesFrom_length (ds : List Bool) : ∀ (l : List (V × V)) (i : Nat), (onesFrom ds i l).length = l.length
  | [], _ => rfl
  | p :: l, i => by rw [onesFrom, List.length_cons, List.length_cons, onesFrom_length ds l]
theorem onesFrom_append (ds : List Bool) : ∀ (l m : List (V × V)) (i : Nat), onesFrom ds i (l ++ m) = onesFrom ds i l ++ onesFrom ds (i + l.length) m
  | [], m, i => by simp [onesFrom]
  | p :: l, m, i => by
    rw [List.cons_append, onesFrom, onesFrom, onesFrom_append ds l m (i + 1), List.cons_append, List.length_cons, show i + 1 + l.length = i + (l.length + 1) by omega]
theorem onesFrom_get (ds : List Bool) : ∀ (l : List (V × V)) (i j : Nat), (onesFrom ds i l)[j]? = l[j]?.map fun p => oneP ds p (i + j)
  | [], i, j => by simp [onesFrom]
  | p :: l, i, 0 => by simp [onesFrom]
  | p :: l, i, j + 1 => by
    rw [onesFrom, List.getElem?_cons_succ, List.getElem?_cons_succ, onesFrom_get ds l (i + 1) j, show i + 1 + j = i + (j + 1) by omega]
theorem onesFrom_mem {ds : List Bool} {l : List (V × V)} {i : Nat} {x : One} (h : x ∈ onesFrom ds i l) : ∃ p ∈ l, ∃ j, i ≤ j ∧ j < i + l.length ∧ l[j - i]? = some p ∧ x = oneP ds p j := by
  obtain ⟨q, hq, rfl⟩ := List.getElem_of_mem h
  have h1 : (onesFrom ds i l)[q]? = some (onesFrom ds i l)[q] := List.getElem?_eq_getElem hq
  rw [onesFrom_get] at h1
  cases hp : l[q]? with
  | none => simp [hp] at h1
  | some p =>
    simp [hp] at h1
    have hlt := (List.getElem?_eq_some_iff.1 hp).1
    exact ⟨p, List.mem_of_getElem? hp, i + q, by omega, by omega, by rw [Nat.add_sub_cancel_left]; exact hp, h1.symm⟩
/-- what is sorted of l -/
def outL (ds : List Bool) (dist : Bool) (l : List (V × V)) : List One := if dist then once (inOrder (onesFrom ds 0 l)) else inOrder (onesFrom ds 0 l)

/-! ## once -/
theorem once'_prefix : ∀ (a b : List One) (k : List UInt8), ∃ t, once' k (a ++ b) = once' k a ++ t
  | [], b, k => ⟨once' k b, rfl⟩
  | y :: a, b, k => by
    rw [List.cons_append, once', once']
    split
    · exact once'_prefix a b k
    · obtain ⟨t, ht⟩ := once'_prefix a b y.k
      exact ⟨t, by rw [ht, List.cons_append]⟩
theorem once_prefix (a b : List One) : ∃ t, once (a ++ b) = once a ++ t := by
  cases a with
  | nil => exact ⟨once b, rfl⟩
  | cons y a =>
    obtain ⟨t, ht⟩ := once'_prefix a b y.k
    exact ⟨t, by show y :: once' y.k (a ++ b) = _; rw [ht]; rfl⟩
theorem once'_srt : ∀ (l : List One) (x : One), Srt (x :: l) → (once' x.k l).Pairwise (fun a b => compareBytes a.k b.k < 0) ∧ (∀ y ∈ once' x.k l, compareBytes x.k y.k < 0) ∧ ∀ y ∈ once' x.k l, y ∈ l
  | [], x, _ => ⟨List.Pairwise.nil, fun y h => (by cases h), fun y h => (by cases h)⟩
  | z :: l, x, h => by
    have h' := List.pairwise_cons.1 h
    have hz := List.pairwise_cons.1 h'.2
    rw [once']
    split
    · rename_i hk
      have hs : Srt (x :: l) := List.pairwise_cons.2 ⟨fun y hy => h'.1 y (List.mem_cons.2 (.inr hy)), hz.2⟩
      obtain ⟨i1, i2, i3⟩ := once'_srt l x hs
      exact ⟨i1, i2, fun y hy => List.mem_cons.2 (.inr (i3 y hy))⟩
    · rename_i hk
      obtain ⟨i1, i2, i3⟩ := once'_srt l z h'.2
      have hxz : compareBytes x.k z.k < 0 := by
        have h1 : compareBytes x.k z.k ≤ 0 := h'.1 z (List.mem_cons.2 (.inl rfl))
        have h2 : compareBytes x.k z.k ≠ 0 := fun e => hk (cmp_zero.1 e).symm
        omega
      refine ⟨List.pairwise_cons.2 ⟨i2, i1⟩, fun y hy => ?_, fun y hy => ?_⟩
      · rcases List.mem_cons.1 hy with rfl | hy
        · exact hxz
        · have h1 : compareBytes x.k y.k ≤ 0 := h'.1 y (List.mem_cons.2 (.inr (i3 y hy)))
          have h2 : compareBytes x.k y.k ≠ 0 := fun e => by
            have e2 := cmp_zero.1 e
            have h3 := i2 y hy
            rw [← e2, cmp_neg x.k z.k] at h3
            omega
          omega
      · rcases List.mem_cons.1 hy with rfl | hy
        · exact List.mem_cons.2 (.inl rfl)
        · exact List.mem_cons.2 (.inr (i3 y hy))
theorem once_srt {l : List One} (h : Srt l) : (once l).Pairwise (fun a b => compareBytes a.k b.k < 0) ∧ ∀ y ∈ once l, y ∈ l := by
  cases l with
  | nil => exact ⟨List.Pairwise.nil, fun y h => (by cases h)⟩
  | cons x l =>
    obtain ⟨i1, i2, i3⟩ := once'_srt l x h
    refine ⟨List.pairwise_cons.2 ⟨i2, i1⟩, fun y hy => ?_⟩
    rcases List.mem_cons.1 hy with rfl | hy
    · exact List.mem_cons.2 (.inl rfl)
    · exact List.mem_cons.2 (.inr (i3 y hy))

/-! ## sorted again -/
theorem inOrder_self {l : List One} (h : Srt l) : inOrder l = l := (inOrder_unique h fun _ => rfl).symm
theorem cls_reverse {l : List One} (h : l.Pairwise (fun a b => a.k ≠ b.k)) (k : List UInt8) : cls k l.reverse = cls k l := by
  induction l with
  | nil => rfl
  | cons x l ih =>
    have h' := List.pairwise_cons.1 h
    rw [List.reverse_cons, cls_append, ih h'.2, cls_cons k x l]
    by_cases hk : x.k = k
    · have : cls k l = [] := cls_none fun y hy e => h'.1 y hy (hk.trans e.symm)
      rw [this, if_pos hk, cls_cons, if_pos hk]; simp [cls]
    · rw [if_neg hk, cls_cons, if_neg hk]; simp [cls]
theorem inOrder_reverse {l : List One} (h : l.Pairwise (fun a b => 0 < compareBytes a.k b.k)) : inOrder l = l.reverse := by
  refine (inOrder_unique ?_ (cls_reverse (h.imp fun hab e => by rw [e, cmp_self] at hab; omega))).symm
  rw [Srt, List.pairwise_reverse]
  refine h.imp fun hab => ?_
  unfold le
  rename_i a b
  rw [cmp_neg a.k b.k]; omega
end S1
