/- Layer 7, plain: what the document's answer sorts. -/
import Derived.Test.YtakmlaliglmnmaaS2Pure
set_option linter.unusedVariables false
set_option linter.unusedSimpArgs false
namespace S1
open Go.Sx Go.Lib R1

theorem once'_cls : ∀ (l : List One) (x : One) (k : List UInt8), Srt (x :: l) → cls k (once' x.k l) = if k = x.k then [] else (cls k l).take 1
  | [], x, k, h => by simp [once', cls]
  | z :: l, x, k, h => by
    have h' := List.pairwise_cons.1 h
    have hz := List.pairwise_cons.1 h'.2
    rw [once']
    split
    · rename_i hk
      have hs : Srt (x :: l) := List.pairwise_cons.2 ⟨fun y hy => h'.1 y (List.mem_cons.2 (.inr hy)), hz.2⟩
      rw [once'_cls l x k hs, cls_cons]
      by_cases hkx : k = x.k
      · rw [if_pos hkx, if_pos hkx]
      · rw [if_neg hkx, if_neg hkx, if_neg (fun e => hkx (by rw [← e, hk]))]; rfl
    · rename_i hk
      rw [cls_cons, once'_cls l z k h'.2, cls_cons]
      by_cases hkx : k = x.k
      · rw [if_pos hkx, if_neg (fun e => hk (by rw [e, hkx])), if_neg (fun e => hk (by rw [← e, hkx]))]
        have : cls k l = [] := cls_none fun y hy e => by
          have h1 : le x z := h'.1 z (.head _)
          have h2 : le z y := hz.1 y hy
          have h3 : compareBytes x.k z.k ≠ 0 := fun e => hk (cmp_zero.1 e).symm
          unfold le at h1 h2
          rw [e, hkx, cmp_neg x.k z.k] at h2
          omega
        rw [this]; rfl
      · rw [if_neg hkx]
        by_cases hkz : z.k = k
        · rw [if_pos hkz, if_pos hkz.symm]; rfl
        · rw [if_neg hkz, if_neg (fun e => hkz e.symm)]; rfl
theorem once_cls {l : List One} (h : Srt l) (k : List UInt8) : cls k (once l) = (cls k l).take 1 := by
  cases l with
  | nil => rfl
  | cons x l =>
    show cls k (x :: once' x.k l) = _
    rw [cls_cons, once'_cls l x k h, cls_cons]
    by_cases hk : x.k = k
    · rw [if_pos hk, if_pos hk.symm]; rfl
    · rw [if_neg hk, if_neg (fun e => hk e.symm)]; rfl
theorem once_Srt {l : List One} (h : Srt l) : Srt (once l) := (once_srt h).1.imp fun hab => by unfold le; omega
/-- one more -/
def rstep (dist : Bool) (out : List One) (x : One) : List One := if dist = true ∧ ∃ y ∈ out, y.k = x.k then out else ins x out
theorem cls_mem {l : List One} {k : List UInt8} : (∃ y ∈ l, y.k = k) ↔ cls k l ≠ [] := by
  constructor
  · rintro ⟨y, hy, hk⟩ h
    have : y ∈ cls k l := List.mem_filter.2 ⟨hy, by simpa using hk⟩
    rw [h] at this; cases this
  · intro h
    cases hc : cls k l with
    | nil => exact absurd hc h
    | cons y t =>
      have : y ∈ cls k l := by rw [hc]; exact .head _
      obtain ⟨h1, h2⟩ := List.mem_filter.1 this
      exact ⟨y, h1, by simpa using h2⟩
theorem once_ins {m : List One} (h : Srt m) (x : One) : once (ins x m) = rstep true (once m) x := by
  obtain ⟨i1, i2⟩ := ins_srt x m h
  unfold rstep
  have ho := once_Srt h
  by_cases hc : cls x.k m = []
  · rw [if_neg]
    · obtain ⟨j1, j2⟩ := ins_srt x (once m) ho
      refine srt_unique _ _ (once_Srt i1) j1 fun k => ?_
      rw [once_cls i1, i2, j2, once_cls h]
      by_cases hk : x.k = k
      · subst hk; rw [hc, if_pos rfl]; rfl
      · rw [if_neg hk, List.append_nil, List.append_nil]
    · rintro ⟨_, hh⟩
      have := cls_mem.1 hh
      rw [once_cls h, hc] at this
      exact this rfl
  · rw [if_pos]
    · refine srt_unique _ _ (once_Srt i1) ho fun k => ?_
      rw [once_cls i1, i2, once_cls h]
      by_cases hk : x.k = k
      · subst hk
        cases hcl : cls x.k m with
        | nil => exact absurd hcl hc
        | cons y t => rfl
      · rw [if_neg hk, List.append_nil]
    · refine ⟨rfl, cls_mem.2 ?_⟩
      rw [once_cls h]
      cases hcl : cls x.k m with
      | nil => exact absurd hcl hc
      | cons y t => simp
theorem sortL_snoc : ∀ (l acc : List One) (x : One), sortL acc (l ++ [x]) = ins x (sortL acc l)
  | [], acc, x => rfl
  | y :: l, acc, x => sortL_snoc l (ins y acc) x
theorem inOrder_snoc (l : List One) (x : One) : inOrder (l ++ [x]) = ins x (inOrder l) := sortL_snoc l [] x
/-- sorted, of a distinct one or not -/
def rsort (dist : Bool) (l : List One) : List One := if dist then once (inOrder l) else inOrder l
theorem rsort_nil (dist : Bool) : rsort dist [] = [] := by cases dist <;> rfl
theorem rsort_snoc (dist : Bool) (l : List One) (x : One) : rsort dist (l ++ [x]) = rstep dist (rsort dist l) x := by
  unfold rsort
  rw [inOrder_snoc]
  cases dist with
  | false => unfold rstep; simp
  | true => exact once_ins (inOrder_srt l) x
theorem rsort_srt (dist : Bool) (l : List One) : Srt (rsort dist l) := by
  unfold rsort
  cases dist with
  | false => exact inOrder_srt l
  | true => exact once_Srt (inOrder_srt l)
theorem ins_at (x : One) : ∀ (m : List One) (q : Nat), (∀ y ∈ m.take q, compareBytes y.k x.k ≤ 0) → (∀ y ∈ m.drop q, 0 < compareBytes y.k x.k) → ins x m = m.take q ++ x :: m.drop q
  | [], q, _, _ => by simp [ins]
  | y :: m, 0, h1, h2 => by
    have := h2 y (.head _)
    rw [ins, if_neg (by omega)]; rfl
  | y :: m, q + 1, h1, h2 => by
    have := h1 y (.head _)
    rw [ins, if_pos this, ins_at x m q (fun z hz => h1 z (.tail _ hz)) h2]; rfl
/-- where it belongs -/
structure Place (out : List One) (x : One) (q : Nat) : Prop where
  le : q ≤ out.length
  hi : ∀ i, q ≤ i → i < out.length → 0 < compareBytes (out.getD i O00).k x.k
  lo : q = 0 ∨ compareBytes (out.getD (q - 1) O00).k x.k ≤ 0
theorem srt_get {out : List One} (h : Srt out) {i j : Nat} (hij : i ≤ j) (hj : j < out.length) : compareBytes (out.getD i O00).k (out.getD j O00).k ≤ 0 := by
  have gi : out.getD i O00 = out[i] := by simp [List.getD, show i < out.length by omega]
  have gj : out.getD j O00 = out[j] := by simp [List.getD, hj]
  rw [gi, gj]
  rcases Nat.eq_or_lt_of_le hij with rfl | hlt
  · rw [cmp_self]; decide
  · exact List.pairwise_iff_getElem.1 h i j (by omega) hj hlt
theorem getO_mem {out : List One} {y : One} (h : y ∈ out) : ∃ i, i < out.length ∧ y = out.getD i O00 := by
  obtain ⟨i, hi, rfl⟩ := List.getElem_of_mem h
  exact ⟨i, hi, by simp [List.getD, hi]⟩
theorem Place.ins {out : List One} {x : One} {q : Nat} (p : Place out x q) (h : Srt out) : ins x out = out.take q ++ x :: out.drop q := by
  refine ins_at x out q (fun y hy => ?_) (fun y hy => ?_)
  · obtain ⟨i, hi, rfl⟩ := List.getElem_of_mem hy
    rw [List.length_take] at hi
    rw [List.getElem_take]
    rcases p.lo with h0 | h0
    · omega
    · have := srt_get h (i := i) (j := q - 1) (by omega) (by have := p.le; omega)
      have g : out.getD i O00 = out[i] := by simp [List.getD, show i < out.length by omega]
      rw [g] at this
      exact cmp_trans _ _ _ this h0
  · obtain ⟨i, hi, rfl⟩ := List.getElem_of_mem hy
    rw [List.length_drop] at hi
    rw [List.getElem_drop]
    have := p.hi (q + i) (by omega) (by omega)
    have g : out.getD (q + i) O00 = out[q + i] := by simp [List.getD, show q + i < out.length by omega]
    rw [g] at this
    exact this
theorem Place.dup {out : List One} {x : One} {q : Nat} (p : Place out x q) (h : Srt out) : (∃ y ∈ out, y.k = x.k) ↔ (0 < q ∧ compareBytes (out.getD (q - 1) O00).k x.k = 0) := by
  have hle := p.le
  constructor
  · rintro ⟨y, hy, hk⟩
    obtain ⟨i, hi, rfl⟩ := getO_mem hy
    have hiq : i < q := by
      rcases Nat.lt_or_ge i q with h' | h'
      · exact h'
      · have := p.hi i h' hi
        rw [hk, cmp_self] at this
        omega
    have h0 : compareBytes (out.getD (q - 1) O00).k x.k ≤ 0 := p.lo.resolve_left (by omega)
    have h1 := srt_get h (i := i) (j := q - 1) (by omega) (by omega)
    rw [hk, cmp_neg (out.getD (q - 1) O00).k x.k] at h1
    exact ⟨by omega, by omega⟩
  · rintro ⟨h0, h1⟩
    have g : out.getD (q - 1) O00 = out[q - 1] := by simp [List.getD, show q - 1 < out.length by omega]
    exact ⟨out.getD (q - 1) O00, by rw [g]; exact List.getElem_mem _, cmp_zero.1 h1⟩
end S1
