/- Layer 7, plain: rows in order of their keys. -/
import Derived.Test.YtakmlaliglmnmaaR7Pure
set_option linter.unusedVariables false
set_option linter.unusedSimpArgs false
namespace S1
open Go.Sx Go.Lib R1

theorem cmp_self (s : List UInt8) : compareBytes s s = 0 := by
  induction s with
  | nil => rfl
  | cons a s ih =>
    have h : ¬ a < a := fun h => lt_asymm8 h h
    rw [compareBytes, if_neg h, if_neg h, ih]
theorem cmp_zero {s t : List UInt8} : compareBytes s t = 0 ↔ s = t := ⟨(esc_differ s t).1, fun h => by rw [h, cmp_self]⟩
theorem cmp_neg : ∀ (s t : List UInt8), compareBytes t s = - compareBytes s t
  | [], [] => rfl
  | [], _ :: _ => rfl
  | _ :: _, [] => rfl
  | a :: s, b :: t => by
    rw [compareBytes, compareBytes]
    by_cases h : a < b
    · have h2 := lt_asymm8 h
      simp [h, h2]
    · by_cases h' : b < a
      · simp [h, h']
      · simp [h, h', cmp_neg s t]
theorem lt_trans8 {a b c : UInt8} (h : a < b) (h' : b < c) : a < c := by
  rw [UInt8.lt_iff_toNat_lt] at *; omega
theorem eq_of8 {a b : UInt8} (h : ¬ a < b) (h' : ¬ b < a) : a = b := by
  rw [UInt8.lt_iff_toNat_lt] at *
  exact UInt8.toNat_inj.1 (by omega)
theorem cmp_trans : ∀ (s t u : List UInt8), compareBytes s t ≤ 0 → compareBytes t u ≤ 0 → compareBytes s u ≤ 0
  | [], _, [], _, _ => by simp [compareBytes]
  | [], _, _ :: _, _, _ => by simp [compareBytes]
  | _ :: _, [], _, h, _ => by simp [compareBytes] at h
  | _ :: _, _ :: _, [], _, h => by simp [compareBytes] at h
  | a :: s, b :: t, c :: u, h, h' => by
    rw [compareBytes] at h h' ⊢
    by_cases h1 : a < b
    · by_cases h2 : b < c
      · rw [if_pos (lt_trans8 h1 h2)]; decide
      · rw [if_neg h2] at h'
        by_cases h3 : c < b
        · rw [if_pos h3] at h'; exact absurd h' (by decide)
        · rw [← eq_of8 h2 h3, if_pos h1]; decide
    · rw [if_neg h1] at h
      by_cases h2 : b < a
      · rw [if_pos h2] at h; exact absurd h (by decide)
      · rw [if_neg h2] at h
        have hab := eq_of8 h1 h2
        subst hab
        by_cases h3 : a < c
        · rw [if_pos h3]; decide
        · rw [if_neg h3] at h' ⊢
          by_cases h4 : c < a
          · rw [if_pos h4] at h'; exact absurd h' (by decide)
          · rw [if_neg h4] at h' ⊢
            exact cmp_trans s t u h h'

/-- a row and its key -/
structure One where
  k : List UInt8
  r : List V
def le (x y : One) : Prop := compareBytes x.k y.k ≤ 0
theorem le_trans' {x y z : One} (h : le x y) (h' : le y z) : le x z := cmp_trans _ _ _ h h'
theorem le_total' (x y : One) : le x y ∨ le y x := by
  unfold le; rw [cmp_neg x.k y.k]; omega
theorem le_anti {x y : One} (h : le x y) (h' : le y x) : x.k = y.k := by
  unfold le at h h'; rw [cmp_neg x.k y.k] at h'
  exact cmp_zero.1 (by omega)
abbrev Srt (l : List One) : Prop := l.Pairwise le
/-- those of one key -/
def cls (k : List UInt8) (l : List One) : List One := l.filter fun x => decide (x.k = k)
theorem cls_append (k : List UInt8) (a b : List One) : cls k (a ++ b) = cls k a ++ cls k b := List.filter_append ..
theorem cls_cons (k : List UInt8) (x : One) (l : List One) : cls k (x :: l) = (if x.k = k then [x] else []) ++ cls k l := by
  unfold cls; rw [List.filter_cons]; by_cases h : x.k = k <;> simp [h]
theorem cls_none {k : List UInt8} {l : List One} (h : ∀ x ∈ l, x.k ≠ k) : cls k l = [] := by
  unfold cls; rw [List.filter_eq_nil_iff]; intro x hx; simpa using h x hx
/-- one that is sorted is known by those of each key -/
theorem srt_unique : ∀ (a b : List One), Srt a → Srt b → (∀ k, cls k a = cls k b) → a = b
  | [], [], _, _, _ => rfl
  | [], y :: b, _, _, h => by
    have := h y.k
    rw [cls_cons, if_pos rfl] at this
    simp [cls] at this
  | x :: a, [], _, _, h => by
    have := h x.k
    rw [cls_cons, if_pos rfl] at this
    simp [cls] at this
  | x :: a, y :: b, ha, hb, h => by
    have mem : ∀ {l m : List One}, (∀ k, cls k l = cls k m) → ∀ z ∈ l, z ∈ m := by
      intro l m hlm z hz
      have : z ∈ cls z.k l := List.mem_filter.2 ⟨hz, by simp⟩
      rw [hlm] at this
      exact (List.mem_filter.1 this).1
    have hxy : le x y := by
      rcases List.mem_cons.1 (mem (fun k => (h k).symm) y (List.mem_cons.2 (.inl rfl))) with e | hm
      · rw [e]; unfold le; rw [cmp_self]; decide
      · exact (List.pairwise_cons.1 ha).1 y hm
    have hyx : le y x := by
      rcases List.mem_cons.1 (mem h x (List.mem_cons.2 (.inl rfl))) with e | hm
      · rw [e]; unfold le; rw [cmp_self]; decide
      · exact (List.pairwise_cons.1 hb).1 x hm
    have hk := le_anti hxy hyx
    have hx := h x.k
    rw [cls_cons, cls_cons, if_pos rfl, if_pos hk.symm] at hx
    have e : x = y := by
      have := List.cons.inj hx
      exact this.1
    subst e
    rw [srt_unique a b (List.pairwise_cons.1 ha).2 (List.pairwise_cons.1 hb).2 fun k => by
      have := h k
      rw [cls_cons, cls_cons] at this
      exact List.append_cancel_left this]

/-! ## merging -/
def mergeL : List One → List One → List One
  | [], b => b
  | x :: a, [] => x :: a
  | x :: a, y :: b => if 0 < compareBytes x.k y.k then y :: mergeL (x :: a) b else x :: mergeL a (y :: b)
termination_by a b => a.length + b.length
theorem mergeL_nil (a : List One) : mergeL a [] = a := by cases a <;> simp [mergeL]
theorem mergeL_nil' (b : List One) : mergeL [] b = b := by simp [mergeL]
theorem mergeL_cons (x : One) (a : List One) (y : One) (b : List One) : mergeL (x :: a) (y :: b) = if 0 < compareBytes x.k y.k then y :: mergeL (x :: a) b else x :: mergeL a (y :: b) := by rw [mergeL]
theorem mergeL_length : ∀ (n : Nat) (a b : List One), a.length + b.length = n → (mergeL a b).length = n
  | n, [], b, h => by rw [mergeL_nil']; simpa using h
  | n, x :: a, [], h => by rw [mergeL_nil]; simpa using h
  | n, x :: a, y :: b, h => by
    obtain ⟨m, rfl⟩ : ∃ m, n = m + 1 := ⟨n - 1, by simp at h; omega⟩
    rw [mergeL_cons]
    split
    · rw [List.length_cons, mergeL_length m (x :: a) b (by simp at h ⊢; omega)]
    · rw [List.length_cons, mergeL_length m a (y :: b) (by simp at h ⊢; omega)]
theorem mergeL_mem : ∀ (n : Nat) (a b : List One), a.length + b.length = n → ∀ z ∈ mergeL a b, z ∈ a ∨ z ∈ b
  | n, [], b, h, z, hz => by rw [mergeL_nil'] at hz; exact .inr hz
  | n, x :: a, [], h, z, hz => by rw [mergeL_nil] at hz; exact .inl hz
  | n, x :: a, y :: b, h, z, hz => by
    obtain ⟨m, rfl⟩ : ∃ m, n = m + 1 := ⟨n - 1, by simp at h; omega⟩
    rw [mergeL_cons] at hz
    split at hz
    · rcases List.mem_cons.1 hz with rfl | hz
      · exact .inr (List.mem_cons.2 (.inl rfl))
      · exact (mergeL_mem m (x :: a) b (by simp at h ⊢; omega) z hz).imp id (fun h => List.mem_cons.2 (.inr h))
    · rcases List.mem_cons.1 hz with rfl | hz
      · exact .inl (List.mem_cons.2 (.inl rfl))
      · exact (mergeL_mem m a (y :: b) (by simp at h ⊢; omega) z hz).imp (fun h => List.mem_cons.2 (.inr h)) id
theorem mergeL_srt : ∀ (n : Nat) (a b : List One), a.length + b.length = n → Srt a → Srt b → Srt (mergeL a b) ∧ ∀ k, cls k (mergeL a b) = cls k a ++ cls k b
  | n, [], b, h, _, hb => by rw [mergeL_nil']; exact ⟨hb, fun k => rfl⟩
  | n, x :: a, [], h, ha, _ => by rw [mergeL_nil]; exact ⟨ha, fun k => by simp [cls]⟩
  | n, x :: a, y :: b, h, ha, hb => by
    obtain ⟨m, rfl⟩ : ∃ m, n = m + 1 := ⟨n - 1, by simp at h; omega⟩
    have ha' := List.pairwise_cons.1 ha
    have hb' := List.pairwise_cons.1 hb
    rw [mergeL_cons]
    split
    · rename_i hlt
      obtain ⟨i1, i2⟩ := mergeL_srt m (x :: a) b (by simp at h ⊢; omega) ha hb'.2
      have hyx : le y x := by unfold le; rw [cmp_neg x.k y.k]; omega
      refine ⟨List.pairwise_cons.2 ⟨fun z hz => ?_, i1⟩, fun k => ?_⟩
      · rcases mergeL_mem m (x :: a) b (by simp at h ⊢; omega) z hz with hz | hz
        · rcases List.mem_cons.1 hz with rfl | hz
          · exact hyx
          · exact le_trans' hyx (ha'.1 z hz)
        · exact hb'.1 z hz
      · rw [cls_cons, i2 k, cls_cons k y b]
        by_cases hk : y.k = k
        · rw [if_pos hk, cls_none (l := x :: a) (fun z hz e => by
            have hxz : le x z := by
              rcases List.mem_cons.1 hz with rfl | hz
              · unfold le; rw [cmp_self]; decide
              · exact ha'.1 z hz
            have : compareBytes x.k z.k ≤ 0 := hxz
            rw [e, ← hk] at this
            omega)]
          simp
        · rw [if_neg hk]; simp
    · rename_i hle
      obtain ⟨i1, i2⟩ := mergeL_srt m a (y :: b) (by simp at h ⊢; omega) ha'.2 hb
      have hxy : le x y := by unfold le; omega
      refine ⟨List.pairwise_cons.2 ⟨fun z hz => ?_, i1⟩, fun k => ?_⟩
      · rcases mergeL_mem m a (y :: b) (by simp at h ⊢; omega) z hz with hz | hz
        · exact ha'.1 z hz
        · rcases List.mem_cons.1 hz with rfl | hz
          · exact hxy
          · exact le_trans' hxy (hb'.1 z hz)
      · rw [cls_cons, i2 k, cls_cons k x a, List.append_assoc]

/-! ## runs -/
def Runs (n : Nat) (l : List One) : Prop := ∀ q, Srt ((l.drop (q * n)).take n)
theorem runs_one (l : List One) : Runs 1 l := by
  intro q
  have : ((l.drop (q * 1)).take 1).length ≤ 1 := by simp; omega
  match (l.drop (q * 1)).take 1, this with
  | [], _ => exact List.Pairwise.nil
  | [x], _ => exact List.pairwise_singleton _ _
/-- what a pass has written when it stands at i -/
structure Pass (cur : List One) (n i : Nat) (out : List One) : Prop where
  len : out.length = min i cur.length
  cl : ∀ k, cls k out = cls k (cur.take i)
  runs : Runs (2 * n) out
  div : 2 * n ∣ i
theorem Pass.zero (cur : List One) (n : Nat) : Pass cur n 0 [] := ⟨by simp, fun k => by simp, fun q => by simp, Nat.dvd_zero _⟩
theorem Pass.step {cur out : List One} {n i : Nat} (h : Pass cur n i out) (hr : Runs n cur) (hn : 0 < n) (hi : i < cur.length) :
    Pass cur n (i + 2 * n) (out ++ mergeL ((cur.drop i).take n) ((cur.drop (i + n)).take n)) := by
  obtain ⟨t, ht⟩ := h.div
  have s1 : Srt ((cur.drop i).take n) := by have := hr (2 * t); rwa [show 2 * t * n = i by rw [ht, Nat.mul_right_comm]] at this
  have s2 : Srt ((cur.drop (i + n)).take n) := by have := hr (2 * t + 1); rwa [show (2 * t + 1) * n = i + n by rw [Nat.add_mul, Nat.one_mul, ht, Nat.mul_right_comm]] at this
  obtain ⟨m1, m2⟩ := mergeL_srt _ _ _ rfl s1 s2
  have hlen := mergeL_length _ ((cur.drop i).take n) ((cur.drop (i + n)).take n) rfl
  have hol : out.length = i := by rw [h.len]; omega
  refine ⟨?_, ?_, ?_, ⟨t + 1, by rw [ht, Nat.mul_succ]⟩⟩
  · rw [List.length_append, hlen, hol]; simp; omega
  · intro k
    rw [cls_append, h.cl, m2, ← cls_append, ← cls_append]
    congr 1
    rw [List.take_add (i := i) (j := 2 * n), show 2 * n = n + n by omega, List.take_add (l := cur.drop i), List.drop_drop]
  · intro q
    rcases Nat.lt_or_ge q t with hq | hq
    · have hle : (q + 1) * (2 * n) ≤ out.length := by
        rw [hol, ht, Nat.mul_comm (2 * n) t]; exact Nat.mul_le_mul_right _ hq
      rw [Nat.add_mul, Nat.one_mul] at hle
      rw [List.drop_append_of_le_length (by omega), List.take_append_of_le_length (by simp; omega)]
      exact h.runs q
    · have hge : out.length ≤ q * (2 * n) := by
        rw [hol, ht, Nat.mul_comm (2 * n) t]; exact Nat.mul_le_mul_right _ hq
      rw [List.drop_append, List.drop_of_length_le hge, List.nil_append]
      exact List.Pairwise.sublist ((List.take_sublist _ _).trans (List.drop_sublist _ _)) m1
theorem Pass.done {cur out : List One} {n i : Nat} (h : Pass cur n i out) (hi : cur.length ≤ i) : out.length = cur.length ∧ (∀ k, cls k out = cls k cur) ∧ Runs (2 * n) out :=
  ⟨by rw [h.len]; omega, fun k => by rw [h.cl, List.take_of_length_le hi], h.runs⟩
theorem runs_all {n : Nat} {l : List One} (h : Runs n l) (hn : l.length ≤ n) : Srt l := by
  have := h 0
  rwa [Nat.zero_mul, List.drop_zero, List.take_of_length_le hn] at this

/-! ## the order, said once -/
def ins (x : One) : List One → List One
  | [] => [x]
  | y :: l => if compareBytes y.k x.k ≤ 0 then y :: ins x l else x :: y :: l
def sortL : List One → List One → List One
  | acc, [] => acc
  | acc, x :: l => sortL (ins x acc) l
theorem ins_mem (x : One) : ∀ (l : List One) (z : One), z ∈ ins x l ↔ z = x ∨ z ∈ l
  | [], z => by simp [ins]
  | y :: l, z => by
    rw [ins]
    split
    · rw [List.mem_cons, ins_mem x l z, List.mem_cons]
      constructor
      · rintro (h | h | h) <;> simp [h]
      · rintro (h | h | h) <;> simp [h]
    · rw [List.mem_cons]
theorem ins_srt (x : One) : ∀ (l : List One), Srt l → Srt (ins x l) ∧ ∀ k, cls k (ins x l) = cls k l ++ (if x.k = k then [x] else [])
  | [], _ => ⟨List.pairwise_singleton _ _, fun k => by rw [ins, cls_cons]; simp [cls]⟩
  | y :: l, h => by
    have h' := List.pairwise_cons.1 h
    rw [ins]
    split
    · rename_i hle
      obtain ⟨i1, i2⟩ := ins_srt x l h'.2
      refine ⟨List.pairwise_cons.2 ⟨fun z hz => ?_, i1⟩, fun k => ?_⟩
      · rcases (ins_mem x l z).1 hz with rfl | hz
        · exact hle
        · exact h'.1 z hz
      · rw [cls_cons, i2, cls_cons k y l, List.append_assoc]
    · rename_i hle
      have hxy : le x y := by unfold le; rw [cmp_neg y.k x.k]; omega
      refine ⟨List.pairwise_cons.2 ⟨fun z hz => ?_, h⟩, fun k => ?_⟩
      · rcases List.mem_cons.1 hz with rfl | hz
        · exact hxy
        · exact le_trans' hxy (h'.1 z hz)
      · rw [cls_cons]
        by_cases hk : x.k = k
        · rw [if_pos hk, cls_none (fun z hz e => by
            have hyz : le y z := by
              rcases List.mem_cons.1 hz with rfl | hz
              · unfold le; rw [cmp_self]; decide
              · exact h'.1 z hz
            have : compareBytes y.k z.k ≤ 0 := hyz
            rw [e, ← hk] at this
            exact hle this)]
          simp
        · rw [if_neg hk]; simp
theorem sortL_srt : ∀ (l acc : List One), Srt acc → Srt (sortL acc l) ∧ ∀ k, cls k (sortL acc l) = cls k acc ++ cls k l
  | [], acc, h => ⟨h, fun k => by simp [sortL, cls]⟩
  | x :: l, acc, h => by
    obtain ⟨i1, i2⟩ := ins_srt x acc h
    obtain ⟨j1, j2⟩ := sortL_srt l (ins x acc) i1
    refine ⟨j1, fun k => ?_⟩
    show cls k (sortL (ins x acc) l) = _
    rw [j2, i2, cls_cons k x l, List.append_assoc]
/-- in order -/
def inOrder (l : List One) : List One := sortL [] l
theorem inOrder_srt (l : List One) : Srt (inOrder l) := (sortL_srt l [] List.Pairwise.nil).1
theorem inOrder_cls (l : List One) (k : List UInt8) : cls k (inOrder l) = cls k l := by
  have := (sortL_srt l [] List.Pairwise.nil).2 k
  show cls k (sortL [] l) = _
  rw [this]; simp [cls]
theorem inOrder_unique {l m : List One} (h : Srt m) (hc : ∀ k, cls k m = cls k l) : m = inOrder l :=
  srt_unique m (inOrder l) h (inOrder_srt l) fun k => by rw [hc, inOrder_cls]
theorem ins_length (x : One) : ∀ l, (ins x l).length = l.length + 1
  | [] => rfl
  | y :: l => by rw [ins]; split <;> simp [ins_length x l]
theorem sortL_length : ∀ (l acc : List One), (sortL acc l).length = acc.length + l.length
  | [], acc => rfl
  | x :: l, acc => by
    show (sortL (ins x acc) l).length = _
    rw [sortL_length l, ins_length, List.length_cons]; omega
theorem inOrder_length (l : List One) : (inOrder l).length = l.length := by rw [inOrder, sortL_length]; simp

/-! ## each key once -/
def once' : List UInt8 → List One → List One
  | _, [] => []
  | k, y :: l => if y.k = k then once' k l else y :: once' y.k l
def once : List One → List One
  | [] => []
  | x :: l => x :: once' x.k l
theorem once'_snoc : ∀ (l : List One) (k : List UInt8) (y : One), once' k (l ++ [y]) = if y.k = (((l.getLast?).map One.k).getD k) then once' k l else once' k l ++ [y]
  | [], k, y => by
    show (if y.k = k then [] else [y]) = if y.k = k then [] else [] ++ [y]
    rfl
  | x :: l, k, y => by
    rw [List.cons_append, once', once', once'_snoc l, once'_snoc l]
    have e : (((x :: l).getLast?).map One.k).getD k = ((l.getLast?).map One.k).getD x.k := by
      cases l with
      | nil => rfl
      | cons z l => simp [List.getLast?_cons_cons, List.getLast?_cons]
    rw [e]
    by_cases hx : x.k = k
    · rw [if_pos hx, if_pos hx, hx]
    · rw [if_neg hx, if_neg hx]
      by_cases hy : y.k = ((l.getLast?).map One.k).getD x.k
      · rw [if_pos hy, if_pos hy]
      · rw [if_neg hy, if_neg hy, List.cons_append]
theorem once_snoc (l : List One) (x y : One) : once (l ++ [x, y]) = if y.k = x.k then once (l ++ [x]) else once (l ++ [x]) ++ [y] := by
  cases l with
  | nil => simp only [List.nil_append, once, once']; split <;> simp
  | cons z l =>
    show z :: once' z.k (l ++ [x, y]) = _
    rw [show l ++ [x, y] = (l ++ [x]) ++ [y] by simp, once'_snoc]
    have : (((l ++ [x]).getLast?).map One.k).getD z.k = x.k := by simp
    rw [this]
    by_cases h : y.k = x.k
    · rw [if_pos h, if_pos h]; rfl
    · rw [if_neg h, if_neg h]; rfl
end S1
